/- Printed by gen2.py: what functions of the program come to. -/
import Derived.Test.YtdpecfeofcibhaaG0
import Derived.KernelRfl
set_option maxRecDepth 100000
namespace Go.Abs
open Go.Proofs

/-! depot/depotlaw25.RegionWrites -/
noncomputable def c7 : Code := bodyOf PR.funcs[7]?
def depotlaw25_RegionWrites_L0 (z25 : Option Sl) (z26 : Option (Nat × Nat)) (z27 : Option (Nat × Nat)) (z28 : Int) (h34 : AH) (Kr : AV → AH → Prop) (K0 : AV → AH → Prop) : Prop := ALoop PR M (M 7) (sub [true, true, true, true, true, false, true, false, false] c7) [.slice z25, .bot, .bot, .ptr z26, .bot, .ptr z27, .bot, .int .i64 z28, .bot, .bot, .bot, .bot, .bot, .bot, .bot, .bot, .bot, .bot, .bot, .bot, .bot, .bot, .bot, .bot, .bot, .bot, .bot, .bot, .bot, .bot, .bot, .bot, .bot, .bot, .bot, .bot, .bot, .bot, .bot, .bot, .bot, .bot, .bot, .bot, .bot, .bot, .bot, .bot, .bot, .bot, .bot, .bot, .bot, .bot, .bot, .bot, .bot, .bot, .bot, .bot, .bot, .bot, .bot, .bot, .bot, .bot, .bot, .bot, .bot, .bot, .bot, .bot, .bot, .bot, .bot, .bot, .bot, .bot, .bot, .bot, .bot, .bot, .bot, .bot, .bot, .bot, .bot, .bot, .bot, .bot, .bot, .bot, .bot, .bot, .bot, .bot, .bot, .bot, .bot, .bot, .bot, .bot, .bot, .bot, .bot, .bot, .bot, .bot, .bot, .bot, .bot, .bot, .bot, .bot, .bot, .bot, .bot, .bot, .bot, .bot, .bot, .bot, .bot, .bot, .bot, .bot, .bot, .bot, .bot, .bot, .bot, .bot, .bot, .bot, .bot, .bot, .bot, .bot, .bot, .bot, .bot, .bot, .bot, .bot, .bot, .bot, .bot, .bot, .bot, .bot, .bot, .bot, .bot, .bot, .bot, .bot, .bot, .bot, .bot, .bot, .bot, .bot, .bot, .bot, .bot, .bot, .bot, .bot, .bot, .bot, .bot, .bot, .bot] h34 fun e29 env30 h31 =>
  exCase e29 (
    Kr (env30.getD 2 .bot) h31
  ) fun i32 =>
  bif i32 == 0 then (
    K0 (env30.getD 2 .bot) h31
  ) else (
    False
  )
def depotlaw25_RegionWrites_L0w (z25 : Option Sl) (z26 : Option (Nat × Nat)) (z27 : Option (Nat × Nat)) (z28 : Int) (h34 : AH) (Kr : AV → AH → Prop) (K0 : AV → AH → Prop) : Prop :=
  br (decide (z28 < ((lenO z25 : Nat) : Int))) (
    ob z25 fun s35 =>
    need ((0 : Int) ≤ z28 ∧ z28 < ((s35.len : Nat) : Int)) <|
    ob (AH.cellsAt h34 s35.id (s35.off + Int.toNat z28 * 9) 9) fun cs36 =>
    asCons cs36 fun v37 l38 =>
    chkInt .i64 v37 fun n39 =>
    asCons l38 fun v40 l41 =>
    chkInt .i64 v40 fun n42 =>
    asCons l41 fun v43 l44 =>
    chkInt .i64 v43 fun n45 =>
    asCons l44 fun v46 l47 =>
    chkInt .i64 v46 fun n48 =>
    asCons l47 fun v49 l50 =>
    chkInt .i64 v49 fun n51 =>
    asCons l50 fun v52 l53 =>
    chkSl v52 fun x54 =>
    asCons l53 fun v55 l56 =>
    chkSl v55 fun x57 =>
    asCons l56 fun v58 l59 =>
    chkInt .i64 v58 fun n60 =>
    asCons l59 fun v61 l62 =>
    chkInt .i64 v61 fun n63 =>
    asNil l62 <|
    new h34 (.cells [.int .i64 0, .int .i64 0, .int .i64 0, .int .i64 0, .int .i64 0, .slice none, .slice none, .int .i64 0, .int .i64 0] false) fun i65 h64 =>
    ob (AH.puts h64 i65 0 [.int .i64 n39, .int .i64 n42, .int .i64 n45, .int .i64 n48, .int .i64 n51, .slice x54, .slice x57, .int .i64 n60, .int .i64 n63]) fun h66 =>
      ob (AH.cell h66 i65 5) fun v67 =>
      chkSl v67 fun x68 =>
      depotref24_Few x68 20 600 h66 fun r71 h70 =>
      br (!r71) (
        depotlaw25_regions h70 fun r76 h75 =>
          Kr (.bool r76) h75
      ) (
        ob (AH.cell h70 i65 6) fun v72 =>
        chkSl v72 fun x73 =>
          br (decide (((lenO x73 : Nat) : Int) > 300)) (
            depotlaw25_regions h70 fun r79 h78 =>
              Kr (.bool r79) h78
          ) (
              ob (AH.cell h70 i65 0) fun v80 =>
              chkInt .i64 v80 fun n81 =>
                br (n81 == 0) (
                  hold h70 0 fun h82 =>
                  ob (AH.cell h82 i65 1) fun v83 =>
                  chkInt .i64 v83 fun n84 =>
                  ob (AH.cell h82 i65 2) fun v85 =>
                  chkInt .i64 v85 fun n86 =>
                  ob (AH.cell h82 i65 1) fun v87 =>
                  chkInt .i64 v87 fun n88 =>
                  ob (AH.cell h82 i65 2) fun v89 =>
                  chkInt .i64 v89 fun n90 =>
                  region_Open z26 n84 n86 h82 fun r93 h92 =>
                  guardR (Req.ok h92 (.cells i65 2 1 [.int .i64 n90]) && (Req.ok h92 (.cells i65 1 1 [.int .i64 n88]) && true)) <|
                  depotref25_Open z27 n88 n90 h92 fun r96 h95 =>
                    ob (AH.cell h95 i65 1) fun v174 =>
                    chkInt .i64 v174 fun n175 =>
                    region_Load z26 n175 h95 fun r_0178 r_1179 h177 =>
                      ob (AH.cell h177 i65 1) fun v180 =>
                      chkInt .i64 v180 fun n181 =>
                      depotref25_Load z27 n181 h177 fun r_0184 r_1185 h183 =>
                        br (r93 != r96) (
                            Kr (.bool false) h183
                        ) (
                          depotref24_Same r_0178 r_0184 h183 fun r188 h187 =>
                          br (!r188) (
                              Kr (.bool false) h187
                          ) (
                            br (r_1179 != r_1185) (
                              Kr (.bool false) h187
                            ) (
                              depotlaw25_RegionWrites_L0 z25 z26 z27 (IntKind.wrap .i64 (z28 + 1)) h187 Kr K0
                            )
                          )
                        )
                ) (
                  br (n81 == 1) (
                    hold h70 0 fun h97 =>
                    ob (AH.cell h97 i65 1) fun v98 =>
                    chkInt .i64 v98 fun n99 =>
                    ob (AH.cell h97 i65 2) fun v100 =>
                    chkInt .i64 v100 fun n101 =>
                    ob (AH.cell h97 i65 3) fun v102 =>
                    chkInt .i64 v102 fun n103 =>
                    ob (AH.cell h97 i65 4) fun v104 =>
                    chkInt .i64 v104 fun n105 =>
                    ob (AH.cell h97 i65 5) fun v106 =>
                    chkSl v106 fun x107 =>
                    ob (AH.cell h97 i65 1) fun v108 =>
                    chkInt .i64 v108 fun n109 =>
                    ob (AH.cell h97 i65 2) fun v110 =>
                    chkInt .i64 v110 fun n111 =>
                    ob (AH.cell h97 i65 3) fun v112 =>
                    chkInt .i64 v112 fun n113 =>
                    ob (AH.cell h97 i65 4) fun v114 =>
                    chkInt .i64 v114 fun n115 =>
                    ob (AH.cell h97 i65 5) fun v116 =>
                    chkSl v116 fun x117 =>
                    region_Append z26 n99 n101 n103 n105 x107 h97 fun r120 h119 =>
                    guardR (Req.ok h119 (.cells i65 5 1 [.slice x117]) && (Req.ok h119 (.cells i65 4 1 [.int .i64 n115]) && (Req.ok h119 (.cells i65 3 1 [.int .i64 n113]) && (Req.ok h119 (.cells i65 2 1 [.int .i64 n111]) && (Req.ok h119 (.cells i65 1 1 [.int .i64 n109]) && true))))) <|
                    depotref25_Append z27 n109 n111 n113 n115 x117 h119 fun r123 h122 =>
                      ob (AH.cell h122 i65 1) fun v189 =>
                      chkInt .i64 v189 fun n190 =>
                      region_Load z26 n190 h122 fun r_0193 r_1194 h192 =>
                        ob (AH.cell h192 i65 1) fun v195 =>
                        chkInt .i64 v195 fun n196 =>
                        depotref25_Load z27 n196 h192 fun r_0199 r_1200 h198 =>
                          br (r120 != r123) (
                              Kr (.bool false) h198
                          ) (
                            depotref24_Same r_0193 r_0199 h198 fun r203 h202 =>
                            br (!r203) (
                                Kr (.bool false) h202
                            ) (
                              br (r_1194 != r_1200) (
                                Kr (.bool false) h202
                              ) (
                                depotlaw25_RegionWrites_L0 z25 z26 z27 (IntKind.wrap .i64 (z28 + 1)) h202 Kr K0
                              )
                            )
                          )
                  ) (
                    br (n81 == 2) (
                      hold h70 0 fun h124 =>
                      ob (AH.cell h124 i65 1) fun v125 =>
                      chkInt .i64 v125 fun n126 =>
                      ob (AH.cell h124 i65 2) fun v127 =>
                      chkInt .i64 v127 fun n128 =>
                      ob (AH.cell h124 i65 3) fun v129 =>
                      chkInt .i64 v129 fun n130 =>
                      ob (AH.cell h124 i65 6) fun v131 =>
                      chkSl v131 fun x132 =>
                      ob (AH.cell h124 i65 1) fun v133 =>
                      chkInt .i64 v133 fun n134 =>
                      ob (AH.cell h124 i65 2) fun v135 =>
                      chkInt .i64 v135 fun n136 =>
                      ob (AH.cell h124 i65 3) fun v137 =>
                      chkInt .i64 v137 fun n138 =>
                      ob (AH.cell h124 i65 6) fun v139 =>
                      chkSl v139 fun x140 =>
                      region_Seal z26 n126 n128 n130 x132 h124 fun r143 h142 =>
                      guardR (Req.ok h142 (.cells i65 6 1 [.slice x140]) && (Req.ok h142 (.cells i65 3 1 [.int .i64 n138]) && (Req.ok h142 (.cells i65 2 1 [.int .i64 n136]) && (Req.ok h142 (.cells i65 1 1 [.int .i64 n134]) && true)))) <|
                      depotref25_Seal z27 n134 n136 n138 x140 h142 fun r146 h145 =>
                        ob (AH.cell h145 i65 1) fun v204 =>
                        chkInt .i64 v204 fun n205 =>
                        region_Load z26 n205 h145 fun r_0208 r_1209 h207 =>
                          ob (AH.cell h207 i65 1) fun v210 =>
                          chkInt .i64 v210 fun n211 =>
                          depotref25_Load z27 n211 h207 fun r_0214 r_1215 h213 =>
                            br (r143 != r146) (
                                Kr (.bool false) h213
                            ) (
                              depotref24_Same r_0208 r_0214 h213 fun r218 h217 =>
                              br (!r218) (
                                  Kr (.bool false) h217
                              ) (
                                br (r_1209 != r_1215) (
                                  Kr (.bool false) h217
                                ) (
                                  depotlaw25_RegionWrites_L0 z25 z26 z27 (IntKind.wrap .i64 (z28 + 1)) h217 Kr K0
                                )
                              )
                            )
                    ) (
                      br (n81 == 3) (
                        ob (AH.cell h70 i65 7) fun v147 =>
                        chkInt .i64 v147 fun n148 =>
                        ob (AH.cell h70 i65 8) fun v149 =>
                        chkInt .i64 v149 fun n150 =>
                        flash_Flash_Arm z26 n148 n150 h70 fun h152 =>
                          ob (AH.cell h152 i65 7) fun v153 =>
                          chkInt .i64 v153 fun n154 =>
                          ob (AH.cell h152 i65 8) fun v155 =>
                          chkInt .i64 v155 fun n156 =>
                          depotref21_Flash_Arm z27 n154 n156 h152 fun h158 =>
                            ob (AH.cell h158 i65 1) fun v219 =>
                            chkInt .i64 v219 fun n220 =>
                            region_Load z26 n220 h158 fun r_0223 r_1224 h222 =>
                              ob (AH.cell h222 i65 1) fun v225 =>
                              chkInt .i64 v225 fun n226 =>
                              depotref25_Load z27 n226 h222 fun r_0229 r_1230 h228 =>
                                br ((0 : Int) != 0) (
                                    Kr (.bool false) h228
                                ) (
                                  depotref24_Same r_0223 r_0229 h228 fun r233 h232 =>
                                  br (!r233) (
                                      Kr (.bool false) h232
                                  ) (
                                    br (r_1224 != r_1230) (
                                      Kr (.bool false) h232
                                    ) (
                                      depotlaw25_RegionWrites_L0 z25 z26 z27 (IntKind.wrap .i64 (z28 + 1)) h232 Kr K0
                                    )
                                  )
                                )
                      ) (
                        br (n81 == 4) (
                          flash_Flash_Restart z26 h70 fun h160 =>
                            depotref21_Flash_Restart z27 h160 fun h162 =>
                              ob (AH.cell h162 i65 1) fun v234 =>
                              chkInt .i64 v234 fun n235 =>
                              region_Load z26 n235 h162 fun r_0238 r_1239 h237 =>
                                ob (AH.cell h237 i65 1) fun v240 =>
                                chkInt .i64 v240 fun n241 =>
                                depotref25_Load z27 n241 h237 fun r_0244 r_1245 h243 =>
                                  br ((0 : Int) != 0) (
                                      Kr (.bool false) h243
                                  ) (
                                    depotref24_Same r_0238 r_0244 h243 fun r248 h247 =>
                                    br (!r248) (
                                        Kr (.bool false) h247
                                    ) (
                                      br (r_1239 != r_1245) (
                                        Kr (.bool false) h247
                                      ) (
                                        depotlaw25_RegionWrites_L0 z25 z26 z27 (IntKind.wrap .i64 (z28 + 1)) h247 Kr K0
                                      )
                                    )
                                  )
                        ) (
                          hold h70 0 fun h163 =>
                          ob (AH.cell h163 i65 1) fun v164 =>
                          chkInt .i64 v164 fun n165 =>
                          ob (AH.cell h163 i65 1) fun v166 =>
                          chkInt .i64 v166 fun n167 =>
                          flash_Flash_Erase z26 n165 h163 fun r170 h169 =>
                          guardR (Req.ok h169 (.cells i65 1 1 [.int .i64 n167]) && true) <|
                          depotref21_Flash_Erase z27 n167 h169 fun r173 h172 =>
                            ob (AH.cell h172 i65 1) fun v249 =>
                            chkInt .i64 v249 fun n250 =>
                            region_Load z26 n250 h172 fun r_0253 r_1254 h252 =>
                              ob (AH.cell h252 i65 1) fun v255 =>
                              chkInt .i64 v255 fun n256 =>
                              depotref25_Load z27 n256 h252 fun r_0259 r_1260 h258 =>
                                br (r170 != r173) (
                                    Kr (.bool false) h258
                                ) (
                                  depotref24_Same r_0253 r_0259 h258 fun r263 h262 =>
                                  br (!r263) (
                                      Kr (.bool false) h262
                                  ) (
                                    br (r_1254 != r_1260) (
                                      Kr (.bool false) h262
                                    ) (
                                      depotlaw25_RegionWrites_L0 z25 z26 z27 (IntKind.wrap .i64 (z28 + 1)) h262 Kr K0
                                    )
                                  )
                                )
                        )
                      )
                    )
                  )
                )
          )
      )
  ) (
    K0 .bot h34
  )
theorem depotlaw25_RegionWrites_L0.eq (z25 : Option Sl) (z26 : Option (Nat × Nat)) (z27 : Option (Nat × Nat)) (z28 : Int) (h34 : AH) (Kr : AV → AH → Prop) (K0 : AV → AH → Prop) : lstep PR (ACall PR M) (ALoop PR M) (M 7) (sub [true, true, true, true, true, false, true, false, false] c7) [.slice z25, .bot, .bot, .ptr z26, .bot, .ptr z27, .bot, .int .i64 z28, .bot, .bot, .bot, .bot, .bot, .bot, .bot, .bot, .bot, .bot, .bot, .bot, .bot, .bot, .bot, .bot, .bot, .bot, .bot, .bot, .bot, .bot, .bot, .bot, .bot, .bot, .bot, .bot, .bot, .bot, .bot, .bot, .bot, .bot, .bot, .bot, .bot, .bot, .bot, .bot, .bot, .bot, .bot, .bot, .bot, .bot, .bot, .bot, .bot, .bot, .bot, .bot, .bot, .bot, .bot, .bot, .bot, .bot, .bot, .bot, .bot, .bot, .bot, .bot, .bot, .bot, .bot, .bot, .bot, .bot, .bot, .bot, .bot, .bot, .bot, .bot, .bot, .bot, .bot, .bot, .bot, .bot, .bot, .bot, .bot, .bot, .bot, .bot, .bot, .bot, .bot, .bot, .bot, .bot, .bot, .bot, .bot, .bot, .bot, .bot, .bot, .bot, .bot, .bot, .bot, .bot, .bot, .bot, .bot, .bot, .bot, .bot, .bot, .bot, .bot, .bot, .bot, .bot, .bot, .bot, .bot, .bot, .bot, .bot, .bot, .bot, .bot, .bot, .bot, .bot, .bot, .bot, .bot, .bot, .bot, .bot, .bot, .bot, .bot, .bot, .bot, .bot, .bot, .bot, .bot, .bot, .bot, .bot, .bot, .bot, .bot, .bot, .bot, .bot, .bot, .bot, .bot, .bot, .bot, .bot, .bot, .bot, .bot, .bot, .bot] h34 (fun e29 env30 h31 =>
  exCase e29 (
    Kr (env30.getD 2 .bot) h31
  ) fun i32 =>
  bif i32 == 0 then (
    K0 (env30.getD 2 .bot) h31
  ) else (
    False
  )
  ) = depotlaw25_RegionWrites_L0w z25 z26 z27 z28 h34 Kr K0 := by kernel_rfl
theorem depotlaw25_RegionWrites_L0.go {z25 : Option Sl} {z26 : Option (Nat × Nat)} {z27 : Option (Nat × Nat)} {z28 : Int} {h34 : AH} {Kr : AV → AH → Prop} {K0 : AV → AH → Prop} (hh : depotlaw25_RegionWrites_L0w z25 z26 z27 z28 h34 Kr K0) : depotlaw25_RegionWrites_L0 z25 z26 z27 z28 h34 Kr K0 := step_loop' (depotlaw25_RegionWrites_L0.eq z25 z26 z27 z28 h34 Kr K0) hh
def depotlaw25_RegionWritesw (l_1 : Option Sl) (h : AH) (K : Bool → AH → Prop) : Prop :=
  depotlaw25_device h fun r_04 r_15 r_26 r_37 h3 =>
  flash_New r_04 r_15 r_26 r_37 h3 fun r_010 r_111 h9 =>
    depotlaw25_device h9 fun r_014 r_115 r_216 r_317 h13 =>
    depotref21_New r_014 r_115 r_216 r_317 h13 fun r_020 r_121 h19 =>
      br (r_111 != 0) (
        K false h19
      ) (
          br (decide (((lenO l_1 : Nat) : Int) > 60)) (
            depotlaw25_regions h19 fun r24 h23 =>
              K r24 h23
          ) (
              depotlaw25_RegionWrites_L0 l_1 r_010 r_020 0 h19
                (fun u265 h264 =>
                  chkBool u265 fun b266 =>
                  K b266 h264
                )
                (fun u268 h267 =>
                  depotlaw25_regions h267 fun r271 h270 =>
                    K r271 h270
                )
          )
      )
theorem depotlaw25_RegionWrites.eq (l_1 : Option Sl) (h : AH) (K : Bool → AH → Prop) : fstep PR (ACall PR M) (ALoop PR M) M 7 [.slice l_1] h (fun v1 h2 =>
  chkBool v1 fun b3 =>
  K b3 h2
  ) = depotlaw25_RegionWritesw l_1 h K := by kernel_rfl
theorem depotlaw25_RegionWrites.go {l_1 : Option Sl} {h : AH} {K : Bool → AH → Prop} (hh : depotlaw25_RegionWritesw l_1 h K) : depotlaw25_RegionWrites l_1 h K := step_call (depotlaw25_RegionWrites.eq l_1 h K) hh

/-! (*depot/flash.Flash).Arm -/
noncomputable def c39 : Code := bodyOf PR.funcs[39]?
def flash_Flash_Armw (f_1 : Option (Nat × Nat)) (after_2 : Int) (keep_3 : Int) (h : AH) (K : AH → Prop) : Prop :=
  br (!(Option.isNone f_1)) (
    ob f_1 fun a4 =>
    ob (AH.cell h a4.1 (a4.2 + 2)) fun v5 =>
    chkBool v5 fun b6 =>
      br (!b6) (
        ob f_1 fun a7 =>
        ob (AH.puts h a7.1 a7.2 [.int .i64 (if (0 : Int) > after_2 then 0 else after_2)]) fun h8 =>
        ob f_1 fun a9 =>
        ob (AH.puts h8 a9.1 (a9.2 + 1) [.int .i64 keep_3]) fun h10 =>
        K h10
      ) (
        K h
      )
  ) (
    K h
  )
theorem flash_Flash_Arm.eq (f_1 : Option (Nat × Nat)) (after_2 : Int) (keep_3 : Int) (h : AH) (K : AH → Prop) : fstep PR (ACall PR M) (ALoop PR M) M 39 [.ptr f_1, .int .i64 after_2, .int .i64 keep_3] h (fun v1 h2 =>
  asTup v1 fun l3 =>
  asNil l3 <|
  K h2
  ) = flash_Flash_Armw f_1 after_2 keep_3 h K := by kernel_rfl
theorem flash_Flash_Arm.go {f_1 : Option (Nat × Nat)} {after_2 : Int} {keep_3 : Int} {h : AH} {K : AH → Prop} (hh : flash_Flash_Armw f_1 after_2 keep_3 h K) : flash_Flash_Arm f_1 after_2 keep_3 h K := step_call (flash_Flash_Arm.eq f_1 after_2 keep_3 h K) hh

/-! (*depot/flash.Flash).Restart -/
noncomputable def c44 : Code := bodyOf PR.funcs[44]?
def flash_Flash_Restartw (f_1 : Option (Nat × Nat)) (h : AH) (K : AH → Prop) : Prop :=
  br (!(Option.isNone f_1)) (
    ob f_1 fun a2 =>
    ob (AH.puts h a2.1 (a2.2 + 2) [.bool false]) fun h3 =>
    ob f_1 fun a4 =>
    ob (AH.puts h3 a4.1 a4.2 [.int .i64 0]) fun h5 =>
    K h5
  ) (
    K h
  )
theorem flash_Flash_Restart.eq (f_1 : Option (Nat × Nat)) (h : AH) (K : AH → Prop) : fstep PR (ACall PR M) (ALoop PR M) M 44 [.ptr f_1] h (fun v1 h2 =>
  asTup v1 fun l3 =>
  asNil l3 <|
  K h2
  ) = flash_Flash_Restartw f_1 h K := by kernel_rfl
theorem flash_Flash_Restart.go {f_1 : Option (Nat × Nat)} {h : AH} {K : AH → Prop} (hh : flash_Flash_Restartw f_1 h K) : flash_Flash_Restart f_1 h K := step_call (flash_Flash_Restart.eq f_1 h K) hh

/-! depot/depotref21.New -/
noncomputable def c48 : Code := bodyOf PR.funcs[48]?
def depotref21_New_L1 (z33 : Option (Nat × Nat)) (z34 : Option (Nat × Nat)) (z35 : Int) (z36 : Option Sl) (z37 : Int) (h44 : AH) (K2 : Option Sl → AH → Prop) : Prop := ALoop PR M (M 48) (sub [true, true, true, false, true, false, false, true, false, false, true, false, true, false, false] c48) [.bot, .ptr z33, .bot, .bot, .ptr z34, .int .i64 z35, .slice z36, .int .i64 z37, .bot, .bot, .bot, .bot, .bot, .bot, .bot, .bot, .bot, .bot, .bot, .bot, .bot, .bot, .bot, .bot, .bot, .bot, .bot, .bot, .bot, .bot, .bot, .bot, .bot, .bot, .bot, .bot, .bot, .bot, .bot, .bot, .bot, .bot, .bot, .bot, .bot, .bot, .bot, .bot, .bot, .bot, .bot, .bot, .bot, .bot, .bot, .bot, .bot, .bot, .bot, .bot, .bot, .bot, .bot, .bot, .bot, .bot, .bot, .bot, .bot, .bot] h44 fun e38 env39 h40 =>
  exCase e38 (
    False
  ) fun i41 =>
  bif i41 == 2 then (
    guardR (AV.beq (.ptr z33) (env39.getD 1 .bot)) <|
    guardR (AV.beq (.ptr z34) (env39.getD 4 .bot)) <|
    guardR (AV.beq (.int .i64 z35) (env39.getD 5 .bot)) <|
    chkSl (env39.getD 6 .bot) fun u42 =>
    K2 u42 h40
  ) else (
    False
  )
def depotref21_New_L0 (z22 : Option (Nat × Nat)) (z23 : Option (Nat × Nat)) (z24 : Int) (h29 : AH) (K0 : AH → Prop) : Prop := ALoop PR M (M 48) (sub [true, true, true, false, true, false, false] c48) [.bot, .ptr z22, .bot, .bot, .ptr z23, .int .i64 z24, .bot, .bot, .bot, .bot, .bot, .bot, .bot, .bot, .bot, .bot, .bot, .bot, .bot, .bot, .bot, .bot, .bot, .bot, .bot, .bot, .bot, .bot, .bot, .bot, .bot, .bot, .bot, .bot, .bot, .bot, .bot, .bot, .bot, .bot, .bot, .bot, .bot, .bot, .bot, .bot, .bot, .bot, .bot, .bot, .bot, .bot, .bot, .bot, .bot, .bot, .bot, .bot, .bot, .bot, .bot, .bot, .bot, .bot, .bot, .bot, .bot, .bot, .bot, .bot] h29 fun e25 env26 h27 =>
  exCase e25 (
    False
  ) fun i28 =>
  bif i28 == 0 then (
    guardR (AV.beq (.ptr z23) (env26.getD 4 .bot)) <|
    K0 h27
  ) else (
    False
  )
def depotref21_New_L1w (z33 : Option (Nat × Nat)) (z34 : Option (Nat × Nat)) (z35 : Int) (z36 : Option Sl) (z37 : Int) (h44 : AH) (K2 : Option Sl → AH → Prop) : Prop :=
  ob z33 fun a45 =>
  ob (AH.cell h44 a45.1 (a45.2 + 1)) fun v46 =>
  chkInt .i64 v46 fun n47 =>
    br (decide (z37 < n47)) (
      ob z33 fun a48 =>
      ob (AH.cell h44 a48.1 (a48.2 + 2)) fun v49 =>
      chkInt .i64 v49 fun n50 =>
      depotref21_blank n50 h44 fun r53 h52 =>
      new h52 (.cells [.str r53] false) fun i55 h54 =>
      aNews h54 1 (.slice (some ⟨i55, 0, 1, 1, none⟩)) fun x56 n57 =>
      guardR (x56.all AV.scal && true && true) <|
      aAppend h54 1 16 z36 x56 n57 fun s58 h59 =>
        depotref21_New_L1 z33 z34 z35 s58 (IntKind.wrap .i64 (z37 + 1)) h59 K2
    ) (
      guardR (AV.beq (.ptr z33) (.ptr z33)) <|
      guardR (AV.beq (.ptr z34) (.ptr z34)) <|
      guardR (AV.beq (.int .i64 z35) (.int .i64 z35)) <|
      K2 z36 h44
    )
theorem depotref21_New_L1.eq (z33 : Option (Nat × Nat)) (z34 : Option (Nat × Nat)) (z35 : Int) (z36 : Option Sl) (z37 : Int) (h44 : AH) (K2 : Option Sl → AH → Prop) : lstep PR (ACall PR M) (ALoop PR M) (M 48) (sub [true, true, true, false, true, false, false, true, false, false, true, false, true, false, false] c48) [.bot, .ptr z33, .bot, .bot, .ptr z34, .int .i64 z35, .slice z36, .int .i64 z37, .bot, .bot, .bot, .bot, .bot, .bot, .bot, .bot, .bot, .bot, .bot, .bot, .bot, .bot, .bot, .bot, .bot, .bot, .bot, .bot, .bot, .bot, .bot, .bot, .bot, .bot, .bot, .bot, .bot, .bot, .bot, .bot, .bot, .bot, .bot, .bot, .bot, .bot, .bot, .bot, .bot, .bot, .bot, .bot, .bot, .bot, .bot, .bot, .bot, .bot, .bot, .bot, .bot, .bot, .bot, .bot, .bot, .bot, .bot, .bot, .bot, .bot] h44 (fun e38 env39 h40 =>
  exCase e38 (
    False
  ) fun i41 =>
  bif i41 == 2 then (
    guardR (AV.beq (.ptr z33) (env39.getD 1 .bot)) <|
    guardR (AV.beq (.ptr z34) (env39.getD 4 .bot)) <|
    guardR (AV.beq (.int .i64 z35) (env39.getD 5 .bot)) <|
    chkSl (env39.getD 6 .bot) fun u42 =>
    K2 u42 h40
  ) else (
    False
  )
  ) = depotref21_New_L1w z33 z34 z35 z36 z37 h44 K2 := by kernel_rfl
theorem depotref21_New_L1.go {z33 : Option (Nat × Nat)} {z34 : Option (Nat × Nat)} {z35 : Int} {z36 : Option Sl} {z37 : Int} {h44 : AH} {K2 : Option Sl → AH → Prop} (hh : depotref21_New_L1w z33 z34 z35 z36 z37 h44 K2) : depotref21_New_L1 z33 z34 z35 z36 z37 h44 K2 := step_loop' (depotref21_New_L1.eq z33 z34 z35 z36 z37 h44 K2) hh
def depotref21_New_L0w (z22 : Option (Nat × Nat)) (z23 : Option (Nat × Nat)) (z24 : Int) (h29 : AH) (K0 : AH → Prop) : Prop :=
  ob z22 fun a30 =>
  ob (AH.cell h29 a30.1 a30.2) fun v31 =>
  chkInt .i64 v31 fun n32 =>
    br (decide (z24 < n32)) (
        depotref21_New_L1 z22 z23 z24 none 0 h29
          (fun u61 h60 =>
            ob z23 fun a62 =>
            ob (AH.cell h60 a62.1 (a62.2 + 4)) fun v63 =>
            chkSl v63 fun x64 =>
            new h60 (.cells [.slice u61] false) fun i66 h65 =>
            aNews h65 1 (.slice (some ⟨i66, 0, 1, 1, none⟩)) fun x67 n68 =>
            guardR (x67.all AV.scal && true && true) <|
            aAppend h65 1 24 x64 x67 n68 fun s69 h70 =>
            ob z23 fun a71 =>
            ob (AH.puts h70 a71.1 (a71.2 + 4) [.slice s69]) fun h72 =>
              ob z23 fun a73 =>
              ob (AH.cell h72 a73.1 (a73.2 + 5)) fun v74 =>
              chkSl v74 fun x75 =>
              new h72 (.cells [.int .i64 0] false) fun i77 h76 =>
              aNews h76 1 (.slice (some ⟨i77, 0, 1, 1, none⟩)) fun x78 n79 =>
              guardR (x78.all AV.scal && true && true) <|
              aAppend h76 1 8 x75 x78 n79 fun s80 h81 =>
              ob z23 fun a82 =>
              ob (AH.puts h81 a82.1 (a82.2 + 5) [.slice s80]) fun h83 =>
                ob z23 fun a84 =>
                ob (AH.cell h83 a84.1 (a84.2 + 6)) fun v85 =>
                chkSl v85 fun x86 =>
                new h83 (.cells [.int .i64 0] false) fun i88 h87 =>
                aNews h87 1 (.slice (some ⟨i88, 0, 1, 1, none⟩)) fun x89 n90 =>
                guardR (x89.all AV.scal && true && true) <|
                aAppend h87 1 8 x86 x89 n90 fun s91 h92 =>
                ob z23 fun a93 =>
                ob (AH.puts h92 a93.1 (a93.2 + 6) [.slice s91]) fun h94 =>
                  ob z23 fun a95 =>
                  ob (AH.cell h94 a95.1 (a95.2 + 7)) fun v96 =>
                  chkSl v96 fun x97 =>
                  new h94 (.cells [.bool false] false) fun i99 h98 =>
                  aNews h98 1 (.slice (some ⟨i99, 0, 1, 1, none⟩)) fun x100 n101 =>
                  guardR (x100.all AV.scal && true && true) <|
                  aAppend h98 1 1 x97 x100 n101 fun s102 h103 =>
                  ob z23 fun a104 =>
                  ob (AH.puts h103 a104.1 (a104.2 + 7) [.slice s102]) fun h105 =>
                    depotref21_New_L0 z22 z23 (IntKind.wrap .i64 (z24 + 1)) h105 K0
          )
    ) (
      guardR (AV.beq (.ptr z23) (.ptr z23)) <|
      K0 h29
    )
theorem depotref21_New_L0.eq (z22 : Option (Nat × Nat)) (z23 : Option (Nat × Nat)) (z24 : Int) (h29 : AH) (K0 : AH → Prop) : lstep PR (ACall PR M) (ALoop PR M) (M 48) (sub [true, true, true, false, true, false, false] c48) [.bot, .ptr z22, .bot, .bot, .ptr z23, .int .i64 z24, .bot, .bot, .bot, .bot, .bot, .bot, .bot, .bot, .bot, .bot, .bot, .bot, .bot, .bot, .bot, .bot, .bot, .bot, .bot, .bot, .bot, .bot, .bot, .bot, .bot, .bot, .bot, .bot, .bot, .bot, .bot, .bot, .bot, .bot, .bot, .bot, .bot, .bot, .bot, .bot, .bot, .bot, .bot, .bot, .bot, .bot, .bot, .bot, .bot, .bot, .bot, .bot, .bot, .bot, .bot, .bot, .bot, .bot, .bot, .bot, .bot, .bot, .bot, .bot] h29 (fun e25 env26 h27 =>
  exCase e25 (
    False
  ) fun i28 =>
  bif i28 == 0 then (
    guardR (AV.beq (.ptr z23) (env26.getD 4 .bot)) <|
    K0 h27
  ) else (
    False
  )
  ) = depotref21_New_L0w z22 z23 z24 h29 K0 := by kernel_rfl
theorem depotref21_New_L0.go {z22 : Option (Nat × Nat)} {z23 : Option (Nat × Nat)} {z24 : Int} {h29 : AH} {K0 : AH → Prop} (hh : depotref21_New_L0w z22 z23 z24 h29 K0) : depotref21_New_L0 z22 z23 z24 h29 K0 := step_loop' (depotref21_New_L0.eq z22 z23 z24 h29 K0) hh
def depotref21_Neww (c__01 : Int) (c__12 : Int) (c__23 : Int) (c__34 : Int) (h : AH) (K : Option (Nat × Nat) → Int → AH → Prop) : Prop :=
  new h (.cells [.int .i64 c__01, .int .i64 c__12, .int .i64 c__23, .int .i64 c__34] false) fun i6 h5 =>
    ob (AH.cellsAt h5 i6 0 4) fun cs7 =>
    ints4 .i64 cs7 fun n8 n9 n10 n11 =>
    depotref21_Right n8 n9 n10 n11 h5 fun r14 h13 =>
      br (!r14) (
        K none 30 h13
      ) (
        ob (AH.cellsAt h13 i6 0 4) fun cs15 =>
        ints4 .i64 cs15 fun n16 n17 n18 n19 =>
        new h13 (.cells [.int .i64 n16, .int .i64 n17, .int .i64 n18, .int .i64 n19, .slice none, .slice none, .slice none, .slice none, .int .i64 0, .bool false, .int .i64 0, .int .i64 0, .slice none] false) fun i21 h20 =>
          depotref21_New_L0 (some (i6, 0)) (some (i21, 0)) 0 h20
            (fun h106 =>
                K (some (i21, 0)) 0 h106
            )
      )
theorem depotref21_New.eq (c__01 : Int) (c__12 : Int) (c__23 : Int) (c__34 : Int) (h : AH) (K : Option (Nat × Nat) → Int → AH → Prop) : fstep PR (ACall PR M) (ALoop PR M) M 48 [.agg [.int .i64 c__01, .int .i64 c__12, .int .i64 c__23, .int .i64 c__34]] h (fun v1 h2 =>
  asTup v1 fun l3 =>
  asCons l3 fun v4 l5 =>
  chkPtr v4 fun p6 =>
  asCons l5 fun v7 l8 =>
  chkInt .i64 v7 fun n9 =>
  asNil l8 <|
  K p6 n9 h2
  ) = depotref21_Neww c__01 c__12 c__23 c__34 h K := by kernel_rfl
theorem depotref21_New.go {c__01 : Int} {c__12 : Int} {c__23 : Int} {c__34 : Int} {h : AH} {K : Option (Nat × Nat) → Int → AH → Prop} (hh : depotref21_Neww c__01 c__12 c__23 c__34 h K) : depotref21_New c__01 c__12 c__23 c__34 h K := step_call (depotref21_New.eq c__01 c__12 c__23 c__34 h K) hh

/-! depot/depotref25.Open -/
noncomputable def c49 : Code := bodyOf PR.funcs[49]?
def depotref25_Openw (f_1 : Option (Nat × Nat)) (block_2 : Int) (epoch_3 : Int) (h : AH) (K : Int → AH → Prop) : Prop :=
  depotref25_one f_1 block_2 1 0 1 epoch_3 0 none h fun r6 h5 =>
    K r6 h5
theorem depotref25_Open.eq (f_1 : Option (Nat × Nat)) (block_2 : Int) (epoch_3 : Int) (h : AH) (K : Int → AH → Prop) : fstep PR (ACall PR M) (ALoop PR M) M 49 [.ptr f_1, .int .i64 block_2, .int .i64 epoch_3] h (fun v1 h2 =>
  chkInt .i64 v1 fun n3 =>
  K n3 h2
  ) = depotref25_Openw f_1 block_2 epoch_3 h K := by kernel_rfl
theorem depotref25_Open.go {f_1 : Option (Nat × Nat)} {block_2 : Int} {epoch_3 : Int} {h : AH} {K : Int → AH → Prop} (hh : depotref25_Openw f_1 block_2 epoch_3 h K) : depotref25_Open f_1 block_2 epoch_3 h K := step_call (depotref25_Open.eq f_1 block_2 epoch_3 h K) hh

/-! depot/depotref25.Append -/
noncomputable def c50 : Code := bodyOf PR.funcs[50]?
def depotref25_Append_L0 (z7 : Option (Nat × Nat)) (z8 : Int) (z9 : Int) (z10 : Int) (z11 : Int) (z12 : Option Sl) (z13 : Int) (h19 : AH) (Kr : AV → AH → Prop) (K0 : AV → AH → Prop) : Prop := ALoop PR M (M 50) (sub [true, true, false, true, false, false] c50) [.ptr z7, .int .i64 z8, .int .i64 z9, .int .i64 z10, .int .i64 z11, .slice z12, .bot, .bot, .bot, .bot, .bot, .bot, .bot, .int .i64 z13, .bot, .bot, .bot, .bot, .bot, .bot, .bot, .bot, .bot, .bot, .bot, .bot, .bot, .bot, .bot, .bot, .bot, .bot, .bot, .bot, .bot, .bot, .bot, .bot, .bot, .bot, .bot, .bot, .bot] h19 fun e14 env15 h16 =>
  exCase e14 (
    Kr (env15.getD 12 .bot) h16
  ) fun i17 =>
  bif i17 == 0 then (
    K0 (env15.getD 12 .bot) h16
  ) else (
    False
  )
def depotref25_Append_L0w (z7 : Option (Nat × Nat)) (z8 : Int) (z9 : Int) (z10 : Int) (z11 : Int) (z12 : Option Sl) (z13 : Int) (h19 : AH) (Kr : AV → AH → Prop) (K0 : AV → AH → Prop) : Prop :=
  br (decide (z13 < ((lenO z12 : Nat) : Int))) (
    ob z12 fun s20 =>
    need ((0 : Int) ≤ z13 ∧ z13 < ((s20.len : Nat) : Int)) <|
    ob (AH.cell h19 s20.id (s20.off + Int.toNat z13 * 1)) fun v21 =>
    chkSl v21 fun x22 =>
    depotref25_one z7 z8 z11 z13 ((lenO z12 : Nat) : Int) z9 (IntKind.wrap .i64 (z10 + z13)) x22 h19 fun r25 h24 =>
      br (r25 != 0) (
        Kr (.int .i64 r25) h24
      ) (
        depotref25_Append_L0 z7 z8 z9 z10 z11 z12 (IntKind.wrap .i64 (z13 + 1)) h24 Kr K0
      )
  ) (
    K0 .bot h19
  )
theorem depotref25_Append_L0.eq (z7 : Option (Nat × Nat)) (z8 : Int) (z9 : Int) (z10 : Int) (z11 : Int) (z12 : Option Sl) (z13 : Int) (h19 : AH) (Kr : AV → AH → Prop) (K0 : AV → AH → Prop) : lstep PR (ACall PR M) (ALoop PR M) (M 50) (sub [true, true, false, true, false, false] c50) [.ptr z7, .int .i64 z8, .int .i64 z9, .int .i64 z10, .int .i64 z11, .slice z12, .bot, .bot, .bot, .bot, .bot, .bot, .bot, .int .i64 z13, .bot, .bot, .bot, .bot, .bot, .bot, .bot, .bot, .bot, .bot, .bot, .bot, .bot, .bot, .bot, .bot, .bot, .bot, .bot, .bot, .bot, .bot, .bot, .bot, .bot, .bot, .bot, .bot, .bot] h19 (fun e14 env15 h16 =>
  exCase e14 (
    Kr (env15.getD 12 .bot) h16
  ) fun i17 =>
  bif i17 == 0 then (
    K0 (env15.getD 12 .bot) h16
  ) else (
    False
  )
  ) = depotref25_Append_L0w z7 z8 z9 z10 z11 z12 z13 h19 Kr K0 := by kernel_rfl
theorem depotref25_Append_L0.go {z7 : Option (Nat × Nat)} {z8 : Int} {z9 : Int} {z10 : Int} {z11 : Int} {z12 : Option Sl} {z13 : Int} {h19 : AH} {Kr : AV → AH → Prop} {K0 : AV → AH → Prop} (hh : depotref25_Append_L0w z7 z8 z9 z10 z11 z12 z13 h19 Kr K0) : depotref25_Append_L0 z7 z8 z9 z10 z11 z12 z13 h19 Kr K0 := step_loop' (depotref25_Append_L0.eq z7 z8 z9 z10 z11 z12 z13 h19 Kr K0) hh
def depotref25_Appendw (f_1 : Option (Nat × Nat)) (block_2 : Int) (epoch_3 : Int) (page_4 : Int) (kind_5 : Int) (parts_6 : Option Sl) (h : AH) (K : Int → AH → Prop) : Prop :=
    br (((lenO parts_6 : Nat) : Int) == 0) (
      K 2 h
    ) (
        depotref25_Append_L0 f_1 block_2 epoch_3 page_4 kind_5 parts_6 0 h
          (fun u27 h26 =>
            chkInt .i64 u27 fun n28 =>
            K n28 h26
          )
          (fun u30 h29 =>
              K 0 h29
          )
    )
theorem depotref25_Append.eq (f_1 : Option (Nat × Nat)) (block_2 : Int) (epoch_3 : Int) (page_4 : Int) (kind_5 : Int) (parts_6 : Option Sl) (h : AH) (K : Int → AH → Prop) : fstep PR (ACall PR M) (ALoop PR M) M 50 [.ptr f_1, .int .i64 block_2, .int .i64 epoch_3, .int .i64 page_4, .int .i64 kind_5, .slice parts_6] h (fun v1 h2 =>
  chkInt .i64 v1 fun n3 =>
  K n3 h2
  ) = depotref25_Appendw f_1 block_2 epoch_3 page_4 kind_5 parts_6 h K := by kernel_rfl
theorem depotref25_Append.go {f_1 : Option (Nat × Nat)} {block_2 : Int} {epoch_3 : Int} {page_4 : Int} {kind_5 : Int} {parts_6 : Option Sl} {h : AH} {K : Int → AH → Prop} (hh : depotref25_Appendw f_1 block_2 epoch_3 page_4 kind_5 parts_6 h K) : depotref25_Append f_1 block_2 epoch_3 page_4 kind_5 parts_6 h K := step_call (depotref25_Append.eq f_1 block_2 epoch_3 page_4 kind_5 parts_6 h K) hh

/-! depot/depotref25.Seal -/
noncomputable def c51 : Code := bodyOf PR.funcs[51]?
def depotref25_Sealw (f_1 : Option (Nat × Nat)) (block_2 : Int) (epoch_3 : Int) (page_4 : Int) (l_5 : Option Sl) (h : AH) (K : Int → AH → Prop) : Prop :=
  depotref25_SealLoad l_5 h fun r_08 r_19 h7 =>
    br (r_19 != 0) (
      K r_19 h7
    ) (
      depotref25_one f_1 block_2 4 0 1 epoch_3 page_4 r_08 h7 fun r12 h11 =>
        K r12 h11
    )
theorem depotref25_Seal.eq (f_1 : Option (Nat × Nat)) (block_2 : Int) (epoch_3 : Int) (page_4 : Int) (l_5 : Option Sl) (h : AH) (K : Int → AH → Prop) : fstep PR (ACall PR M) (ALoop PR M) M 51 [.ptr f_1, .int .i64 block_2, .int .i64 epoch_3, .int .i64 page_4, .slice l_5] h (fun v1 h2 =>
  chkInt .i64 v1 fun n3 =>
  K n3 h2
  ) = depotref25_Sealw f_1 block_2 epoch_3 page_4 l_5 h K := by kernel_rfl
theorem depotref25_Seal.go {f_1 : Option (Nat × Nat)} {block_2 : Int} {epoch_3 : Int} {page_4 : Int} {l_5 : Option Sl} {h : AH} {K : Int → AH → Prop} (hh : depotref25_Sealw f_1 block_2 epoch_3 page_4 l_5 h K) : depotref25_Seal f_1 block_2 epoch_3 page_4 l_5 h K := step_call (depotref25_Seal.eq f_1 block_2 epoch_3 page_4 l_5 h K) hh

/-! (*depot/depotref21.Flash).Arm -/
noncomputable def c52 : Code := bodyOf PR.funcs[52]?
def depotref21_Flash_Armw (f_1 : Option (Nat × Nat)) (after_2 : Int) (keep_3 : Int) (h : AH) (K : AH → Prop) : Prop :=
  ob f_1 fun a4 =>
  ob (AH.cell h a4.1 (a4.2 + 9)) fun v5 =>
  chkBool v5 fun b6 =>
    br (!b6) (
      ob f_1 fun a7 =>
      ob (AH.puts h a7.1 (a7.2 + 10) [.int .i64 (if (0 : Int) > after_2 then 0 else after_2)]) fun h8 =>
      ob f_1 fun a9 =>
      ob (AH.puts h8 a9.1 (a9.2 + 11) [.int .i64 keep_3]) fun h10 =>
      K h10
    ) (
      K h
    )
theorem depotref21_Flash_Arm.eq (f_1 : Option (Nat × Nat)) (after_2 : Int) (keep_3 : Int) (h : AH) (K : AH → Prop) : fstep PR (ACall PR M) (ALoop PR M) M 52 [.ptr f_1, .int .i64 after_2, .int .i64 keep_3] h (fun v1 h2 =>
  asTup v1 fun l3 =>
  asNil l3 <|
  K h2
  ) = depotref21_Flash_Armw f_1 after_2 keep_3 h K := by kernel_rfl
theorem depotref21_Flash_Arm.go {f_1 : Option (Nat × Nat)} {after_2 : Int} {keep_3 : Int} {h : AH} {K : AH → Prop} (hh : depotref21_Flash_Armw f_1 after_2 keep_3 h K) : depotref21_Flash_Arm f_1 after_2 keep_3 h K := step_call (depotref21_Flash_Arm.eq f_1 after_2 keep_3 h K) hh

/-! (*depot/depotref21.Flash).Restart -/
noncomputable def c53 : Code := bodyOf PR.funcs[53]?
def depotref21_Flash_Restartw (f_1 : Option (Nat × Nat)) (h : AH) (K : AH → Prop) : Prop :=
  ob f_1 fun a2 =>
  ob (AH.puts h a2.1 (a2.2 + 9) [.bool false]) fun h3 =>
    ob f_1 fun a4 =>
    ob (AH.puts h3 a4.1 (a4.2 + 10) [.int .i64 0]) fun h5 =>
    K h5
theorem depotref21_Flash_Restart.eq (f_1 : Option (Nat × Nat)) (h : AH) (K : AH → Prop) : fstep PR (ACall PR M) (ALoop PR M) M 53 [.ptr f_1] h (fun v1 h2 =>
  asTup v1 fun l3 =>
  asNil l3 <|
  K h2
  ) = depotref21_Flash_Restartw f_1 h K := by kernel_rfl
theorem depotref21_Flash_Restart.go {f_1 : Option (Nat × Nat)} {h : AH} {K : AH → Prop} (hh : depotref21_Flash_Restartw f_1 h K) : depotref21_Flash_Restart f_1 h K := step_call (depotref21_Flash_Restart.eq f_1 h K) hh

/-! (*depot/flash.Flash).Erase -/
noncomputable def c54 : Code := bodyOf PR.funcs[54]?
def flash_Flash_Erasew (f_1 : Option (Nat × Nat)) (b_2 : Int) (h : AH) (K : Int → AH → Prop) : Prop :=
  flash_Flash_find f_1 b_2 0 h fun r_05 r_16 h4 =>
    br (r_16 != 0) (
      K r_16 h4
    ) (
      ob r_05 fun a7 =>
      ob (AH.cell h4 a7.1 (a7.2 + 3)) fun v8 =>
      chkBool v8 fun b9 =>
        br b9 (
          K 10 h4
        ) (
          ob f_1 fun a10 =>
          flash_tearer_tears (some (a10.1, a10.2)) h4 fun r13 h12 =>
            br r13 (
              hold h12 0 fun h14 =>
              ob f_1 fun a15 =>
              ob f_1 fun a16 =>
              ob (AH.cell h14 a16.1 (a16.2 + 3 + 1)) fun v17 =>
              chkInt .i64 v17 fun n18 =>
              ob f_1 fun a19 =>
              ob (AH.cell h14 a19.1 (a19.2 + 3 + 2)) fun v20 =>
              chkInt .i64 v20 fun n21 =>
              flash_tearer_kept (some (a15.1, a15.2)) n18 h14 fun r24 h23 =>
              guardR (Req.ok h23 (.cells a19.1 (a19.2 + 3 + 2) 1 [.int .i64 n21]) && true) <|
              flash_block_wipe r_05 r24 n21 h23 fun h26 =>
                ob f_1 fun a27 =>
                ob (AH.cell h26 a27.1 (a27.2 + 3 + 1)) fun v28 =>
                chkInt .i64 v28 fun n29 =>
                ob r_05 fun a30 =>
                ob (AH.puts h26 a30.1 (a30.2 + 1) [.int .i64 n29]) fun h31 =>
                  K 11 h31
            ) (
              hold h12 0 fun h32 =>
              ob f_1 fun a33 =>
              ob (AH.cell h32 a33.1 (a33.2 + 3 + 1)) fun v34 =>
              chkInt .i64 v34 fun n35 =>
              ob f_1 fun a36 =>
              ob (AH.cell h32 a36.1 (a36.2 + 3 + 2)) fun v37 =>
              chkInt .i64 v37 fun n38 =>
              flash_block_wipe r_05 n35 n38 h32 fun h40 =>
                ob f_1 fun a41 =>
                ob (AH.cell h40 a41.1 (a41.2 + 3 + 3)) fun v42 =>
                chkInt .i64 v42 fun n43 =>
                flash_block_worn r_05 n43 h40 fun r46 h45 =>
                  br r46 (
                    K 10 h45
                  ) (
                      K 0 h45
                  )
            )
        )
    )
theorem flash_Flash_Erase.eq (f_1 : Option (Nat × Nat)) (b_2 : Int) (h : AH) (K : Int → AH → Prop) : fstep PR (ACall PR M) (ALoop PR M) M 54 [.ptr f_1, .int .i64 b_2] h (fun v1 h2 =>
  chkInt .i64 v1 fun n3 =>
  K n3 h2
  ) = flash_Flash_Erasew f_1 b_2 h K := by kernel_rfl
theorem flash_Flash_Erase.go {f_1 : Option (Nat × Nat)} {b_2 : Int} {h : AH} {K : Int → AH → Prop} (hh : flash_Flash_Erasew f_1 b_2 h K) : flash_Flash_Erase f_1 b_2 h K := step_call (flash_Flash_Erase.eq f_1 b_2 h K) hh

/-! (*depot/depotref21.Flash).Erase -/
noncomputable def c55 : Code := bodyOf PR.funcs[55]?
def depotref21_Flash_Erase_L0 (z24 : Option (Nat × Nat)) (z25 : Int) (z26 : Bool) (z27 : Int) (z28 : Int) (h33 : AH) (K0 : AH → Prop) : Prop := ALoop PR M (M 55) (sub [true, true, true, true, true, true, true, false, true, false, false] c55) [.ptr z24, .int .i64 z25, .bot, .bot, .bot, .bool z26, .int .i64 z27, .int .i64 z28, .bot, .bot, .bot, .bot, .bot, .bot, .bot, .bot, .bot, .bot, .bot, .bot, .bot, .bot, .bot, .bot, .bot, .bot, .bot, .bot, .bot, .bot, .bot, .bot, .bot, .bot, .bot, .bot, .bot, .bot, .bot, .bot, .bot, .bot, .bot, .bot, .bot, .bot, .bot, .bot, .bot, .bot, .bot, .bot, .bot, .bot, .bot, .bot, .bot, .bot, .bot, .bot, .bot, .bot, .bot, .bot, .bot, .bot, .bot, .bot, .bot, .bot, .bot, .bot, .bot, .bot, .bot, .bot, .bot, .bot, .bot, .bot, .bot, .bot, .bot, .bot, .bot, .bot, .bot, .bot, .bot, .bot, .bot, .bot, .bot, .bot, .bot, .bot, .bot, .bot, .bot, .bot, .bot, .bot, .bot, .bot, .bot, .bot, .bot, .bot, .bot, .bot, .bot, .bot, .bot, .bot, .bot, .bot] h33 fun e29 env30 h31 =>
  exCase e29 (
    False
  ) fun i32 =>
  bif i32 == 0 then (
    guardR (AV.beq (.ptr z24) (env30.getD 0 .bot)) <|
    guardR (AV.beq (.int .i64 z25) (env30.getD 1 .bot)) <|
    guardR (AV.beq (.bool z26) (env30.getD 5 .bot)) <|
    K0 h31
  ) else (
    False
  )
def depotref21_Flash_Erase_L0w (z24 : Option (Nat × Nat)) (z25 : Int) (z26 : Bool) (z27 : Int) (z28 : Int) (h33 : AH) (K0 : AH → Prop) : Prop :=
  br (decide (z28 < z27)) (
    hold h33 0 fun h34 =>
    ob z24 fun a35 =>
    ob (AH.cell h34 a35.1 (a35.2 + 4)) fun v36 =>
    chkSl v36 fun x37 =>
    ob x37 fun s38 =>
    need ((0 : Int) ≤ z25 ∧ z25 < ((s38.len : Nat) : Int)) <|
    ob (AH.cell h34 s38.id (s38.off + Int.toNat z25 * 1)) fun v39 =>
    chkSl v39 fun x40 =>
    ob z24 fun a41 =>
    ob (AH.cell h34 a41.1 (a41.2 + 2)) fun v42 =>
    chkInt .i64 v42 fun n43 =>
    depotref21_blank n43 h34 fun r46 h45 =>
    guardR (Req.ok h45 (.cells s38.id (s38.off + Int.toNat z25 * 1) 1 [.slice x40]) && (Req.ok h45 (.cells a35.1 (a35.2 + 4) 1 [.slice x37]) && true)) <|
    ob x40 fun s47 =>
    need ((0 : Int) ≤ z28 ∧ z28 < ((s47.len : Nat) : Int)) <|
    ob (AH.puts h45 s47.id (s47.off + Int.toNat z28 * 1) [.str r46]) fun h48 =>
      depotref21_Flash_Erase_L0 z24 z25 z26 z27 (IntKind.wrap .i64 (z28 + 1)) h48 K0
  ) (
    guardR (AV.beq (.ptr z24) (.ptr z24)) <|
    guardR (AV.beq (.int .i64 z25) (.int .i64 z25)) <|
    guardR (AV.beq (.bool z26) (.bool z26)) <|
    K0 h33
  )
theorem depotref21_Flash_Erase_L0.eq (z24 : Option (Nat × Nat)) (z25 : Int) (z26 : Bool) (z27 : Int) (z28 : Int) (h33 : AH) (K0 : AH → Prop) : lstep PR (ACall PR M) (ALoop PR M) (M 55) (sub [true, true, true, true, true, true, true, false, true, false, false] c55) [.ptr z24, .int .i64 z25, .bot, .bot, .bot, .bool z26, .int .i64 z27, .int .i64 z28, .bot, .bot, .bot, .bot, .bot, .bot, .bot, .bot, .bot, .bot, .bot, .bot, .bot, .bot, .bot, .bot, .bot, .bot, .bot, .bot, .bot, .bot, .bot, .bot, .bot, .bot, .bot, .bot, .bot, .bot, .bot, .bot, .bot, .bot, .bot, .bot, .bot, .bot, .bot, .bot, .bot, .bot, .bot, .bot, .bot, .bot, .bot, .bot, .bot, .bot, .bot, .bot, .bot, .bot, .bot, .bot, .bot, .bot, .bot, .bot, .bot, .bot, .bot, .bot, .bot, .bot, .bot, .bot, .bot, .bot, .bot, .bot, .bot, .bot, .bot, .bot, .bot, .bot, .bot, .bot, .bot, .bot, .bot, .bot, .bot, .bot, .bot, .bot, .bot, .bot, .bot, .bot, .bot, .bot, .bot, .bot, .bot, .bot, .bot, .bot, .bot, .bot, .bot, .bot, .bot, .bot, .bot, .bot] h33 (fun e29 env30 h31 =>
  exCase e29 (
    False
  ) fun i32 =>
  bif i32 == 0 then (
    guardR (AV.beq (.ptr z24) (env30.getD 0 .bot)) <|
    guardR (AV.beq (.int .i64 z25) (env30.getD 1 .bot)) <|
    guardR (AV.beq (.bool z26) (env30.getD 5 .bot)) <|
    K0 h31
  ) else (
    False
  )
  ) = depotref21_Flash_Erase_L0w z24 z25 z26 z27 z28 h33 K0 := by kernel_rfl
theorem depotref21_Flash_Erase_L0.go {z24 : Option (Nat × Nat)} {z25 : Int} {z26 : Bool} {z27 : Int} {z28 : Int} {h33 : AH} {K0 : AH → Prop} (hh : depotref21_Flash_Erase_L0w z24 z25 z26 z27 z28 h33 K0) : depotref21_Flash_Erase_L0 z24 z25 z26 z27 z28 h33 K0 := step_loop' (depotref21_Flash_Erase_L0.eq z24 z25 z26 z27 z28 h33 K0) hh
def depotref21_Flash_Erasew (f_1 : Option (Nat × Nat)) (b_2 : Int) (h : AH) (K : Int → AH → Prop) : Prop :=
  ob f_1 fun a3 =>
  ob (AH.cell h a3.1 (a3.2 + 9)) fun v4 =>
  chkBool v4 fun b5 =>
    br b5 (
      K 11 h
    ) (
      depotref21_Flash_there f_1 b_2 0 h fun r8 h7 =>
        br (!r8) (
          K 2 h7
        ) (
          ob f_1 fun a9 =>
          ob (AH.cell h7 a9.1 (a9.2 + 7)) fun v10 =>
          chkSl v10 fun x11 =>
          ob x11 fun s12 =>
          need ((0 : Int) ≤ b_2 ∧ b_2 < ((s12.len : Nat) : Int)) <|
          ob (AH.cell h7 s12.id (s12.off + Int.toNat b_2 * 1)) fun v13 =>
          chkBool v13 fun b14 =>
            br b14 (
              K 10 h7
            ) (
              depotref21_Flash_tears f_1 h7 fun r17 h16 =>
                ob f_1 fun a18 =>
                ob (AH.cell h16 a18.1 (a18.2 + 1)) fun v19 =>
                chkInt .i64 v19 fun n20 =>
                  br r17 (
                    ob f_1 fun a21 =>
                    ob (AH.cell h16 a21.1 (a21.2 + 11)) fun v22 =>
                    chkInt .i64 v22 fun n23 =>
                      depotref21_Flash_Erase_L0 f_1 b_2 r17 (if (n20 : Int) < (if (0 : Int) > n23 then 0 else n23) then n20 else (if (0 : Int) > n23 then 0 else n23)) 0 h16
                        (fun h49 =>
                            br r17 (
                              hold h49 0 fun h50 =>
                              ob f_1 fun a51 =>
                              ob (AH.cell h50 a51.1 (a51.2 + 5)) fun v52 =>
                              chkSl v52 fun x53 =>
                              ob f_1 fun a54 =>
                              ob (AH.cell h50 a54.1 (a54.2 + 1)) fun v55 =>
                              chkInt .i64 v55 fun n56 =>
                              ob x53 fun s57 =>
                              need ((0 : Int) ≤ b_2 ∧ b_2 < ((s57.len : Nat) : Int)) <|
                              ob (AH.puts h50 s57.id (s57.off + Int.toNat b_2 * 1) [.int .i64 n56]) fun h58 =>
                                K 11 h58
                            ) (
                              ob f_1 fun a59 =>
                              ob (AH.cell h49 a59.1 (a59.2 + 5)) fun v60 =>
                              chkSl v60 fun x61 =>
                              ob x61 fun s62 =>
                              need ((0 : Int) ≤ b_2 ∧ b_2 < ((s62.len : Nat) : Int)) <|
                              ob (AH.puts h49 s62.id (s62.off + Int.toNat b_2 * 1) [.int .i64 0]) fun h63 =>
                                hold h63 0 fun h64 =>
                                ob f_1 fun a65 =>
                                ob (AH.cell h64 a65.1 (a65.2 + 6)) fun v66 =>
                                chkSl v66 fun x67 =>
                                ob f_1 fun a68 =>
                                ob (AH.cell h64 a68.1 (a68.2 + 6)) fun v69 =>
                                chkSl v69 fun x70 =>
                                ob x70 fun s71 =>
                                need ((0 : Int) ≤ b_2 ∧ b_2 < ((s71.len : Nat) : Int)) <|
                                ob (AH.cell h64 s71.id (s71.off + Int.toNat b_2 * 1)) fun v72 =>
                                chkInt .i64 v72 fun n73 =>
                                ob x67 fun s74 =>
                                need ((0 : Int) ≤ b_2 ∧ b_2 < ((s74.len : Nat) : Int)) <|
                                ob (AH.puts h64 s74.id (s74.off + Int.toNat b_2 * 1) [.int .i64 (IntKind.wrap .i64 (n73 + 1))]) fun h75 =>
                                  hold h75 0 fun h76 =>
                                  ob f_1 fun a77 =>
                                  ob (AH.cell h76 a77.1 (a77.2 + 7)) fun v78 =>
                                  chkSl v78 fun x79 =>
                                  ob f_1 fun a80 =>
                                  ob (AH.cell h76 a80.1 (a80.2 + 6)) fun v81 =>
                                  chkSl v81 fun x82 =>
                                  ob x82 fun s83 =>
                                  need ((0 : Int) ≤ b_2 ∧ b_2 < ((s83.len : Nat) : Int)) <|
                                  ob (AH.cell h76 s83.id (s83.off + Int.toNat b_2 * 1)) fun v84 =>
                                  chkInt .i64 v84 fun n85 =>
                                  ob f_1 fun a86 =>
                                  ob (AH.cell h76 a86.1 (a86.2 + 3)) fun v87 =>
                                  chkInt .i64 v87 fun n88 =>
                                  ob x79 fun s89 =>
                                  need ((0 : Int) ≤ b_2 ∧ b_2 < ((s89.len : Nat) : Int)) <|
                                  ob (AH.puts h76 s89.id (s89.off + Int.toNat b_2 * 1) [.bool (n85 == n88)]) fun h90 =>
                                    ob f_1 fun a91 =>
                                    ob (AH.cell h90 a91.1 (a91.2 + 7)) fun v92 =>
                                    chkSl v92 fun x93 =>
                                    ob x93 fun s94 =>
                                    need ((0 : Int) ≤ b_2 ∧ b_2 < ((s94.len : Nat) : Int)) <|
                                    ob (AH.cell h90 s94.id (s94.off + Int.toNat b_2 * 1)) fun v95 =>
                                    chkBool v95 fun b96 =>
                                      br b96 (
                                        K 10 h90
                                      ) (
                                          K 0 h90
                                      )
                            )
                        )
                  ) (
                      depotref21_Flash_Erase_L0 f_1 b_2 r17 n20 0 h16
                        (fun h97 =>
                            br r17 (
                              hold h97 0 fun h98 =>
                              ob f_1 fun a99 =>
                              ob (AH.cell h98 a99.1 (a99.2 + 5)) fun v100 =>
                              chkSl v100 fun x101 =>
                              ob f_1 fun a102 =>
                              ob (AH.cell h98 a102.1 (a102.2 + 1)) fun v103 =>
                              chkInt .i64 v103 fun n104 =>
                              ob x101 fun s105 =>
                              need ((0 : Int) ≤ b_2 ∧ b_2 < ((s105.len : Nat) : Int)) <|
                              ob (AH.puts h98 s105.id (s105.off + Int.toNat b_2 * 1) [.int .i64 n104]) fun h106 =>
                                K 11 h106
                            ) (
                              ob f_1 fun a107 =>
                              ob (AH.cell h97 a107.1 (a107.2 + 5)) fun v108 =>
                              chkSl v108 fun x109 =>
                              ob x109 fun s110 =>
                              need ((0 : Int) ≤ b_2 ∧ b_2 < ((s110.len : Nat) : Int)) <|
                              ob (AH.puts h97 s110.id (s110.off + Int.toNat b_2 * 1) [.int .i64 0]) fun h111 =>
                                hold h111 0 fun h112 =>
                                ob f_1 fun a113 =>
                                ob (AH.cell h112 a113.1 (a113.2 + 6)) fun v114 =>
                                chkSl v114 fun x115 =>
                                ob f_1 fun a116 =>
                                ob (AH.cell h112 a116.1 (a116.2 + 6)) fun v117 =>
                                chkSl v117 fun x118 =>
                                ob x118 fun s119 =>
                                need ((0 : Int) ≤ b_2 ∧ b_2 < ((s119.len : Nat) : Int)) <|
                                ob (AH.cell h112 s119.id (s119.off + Int.toNat b_2 * 1)) fun v120 =>
                                chkInt .i64 v120 fun n121 =>
                                ob x115 fun s122 =>
                                need ((0 : Int) ≤ b_2 ∧ b_2 < ((s122.len : Nat) : Int)) <|
                                ob (AH.puts h112 s122.id (s122.off + Int.toNat b_2 * 1) [.int .i64 (IntKind.wrap .i64 (n121 + 1))]) fun h123 =>
                                  hold h123 0 fun h124 =>
                                  ob f_1 fun a125 =>
                                  ob (AH.cell h124 a125.1 (a125.2 + 7)) fun v126 =>
                                  chkSl v126 fun x127 =>
                                  ob f_1 fun a128 =>
                                  ob (AH.cell h124 a128.1 (a128.2 + 6)) fun v129 =>
                                  chkSl v129 fun x130 =>
                                  ob x130 fun s131 =>
                                  need ((0 : Int) ≤ b_2 ∧ b_2 < ((s131.len : Nat) : Int)) <|
                                  ob (AH.cell h124 s131.id (s131.off + Int.toNat b_2 * 1)) fun v132 =>
                                  chkInt .i64 v132 fun n133 =>
                                  ob f_1 fun a134 =>
                                  ob (AH.cell h124 a134.1 (a134.2 + 3)) fun v135 =>
                                  chkInt .i64 v135 fun n136 =>
                                  ob x127 fun s137 =>
                                  need ((0 : Int) ≤ b_2 ∧ b_2 < ((s137.len : Nat) : Int)) <|
                                  ob (AH.puts h124 s137.id (s137.off + Int.toNat b_2 * 1) [.bool (n133 == n136)]) fun h138 =>
                                    ob f_1 fun a139 =>
                                    ob (AH.cell h138 a139.1 (a139.2 + 7)) fun v140 =>
                                    chkSl v140 fun x141 =>
                                    ob x141 fun s142 =>
                                    need ((0 : Int) ≤ b_2 ∧ b_2 < ((s142.len : Nat) : Int)) <|
                                    ob (AH.cell h138 s142.id (s142.off + Int.toNat b_2 * 1)) fun v143 =>
                                    chkBool v143 fun b144 =>
                                      br b144 (
                                        K 10 h138
                                      ) (
                                          K 0 h138
                                      )
                            )
                        )
                  )
            )
        )
    )
theorem depotref21_Flash_Erase.eq (f_1 : Option (Nat × Nat)) (b_2 : Int) (h : AH) (K : Int → AH → Prop) : fstep PR (ACall PR M) (ALoop PR M) M 55 [.ptr f_1, .int .i64 b_2] h (fun v1 h2 =>
  chkInt .i64 v1 fun n3 =>
  K n3 h2
  ) = depotref21_Flash_Erasew f_1 b_2 h K := by kernel_rfl
theorem depotref21_Flash_Erase.go {f_1 : Option (Nat × Nat)} {b_2 : Int} {h : AH} {K : Int → AH → Prop} (hh : depotref21_Flash_Erasew f_1 b_2 h K) : depotref21_Flash_Erase f_1 b_2 h K := step_call (depotref21_Flash_Erase.eq f_1 b_2 h K) hh

/-! depot/depotref25.Load -/
noncomputable def c56 : Code := bodyOf PR.funcs[56]?
def depotref25_Load_L0 (z3 : Option (Nat × Nat)) (z4 : Int) (z5 : Option Sl) (z6 : Int) (h16 : AH) (Kr : AV → AV → Option Sl → AH → Prop) (K0 : AV → AV → Option Sl → AH → Prop) : Prop := ALoop PR M (M 56) (sub [true, true, false, true, false, false] c56) [.ptr z3, .int .i64 z4, .bot, .bot, .bot, .bot, .slice z5, .int .i64 z6, .bot, .bot, .bot, .bot, .bot, .bot, .bot, .bot, .bot, .bot, .bot, .bot, .bot, .bot, .bot, .bot, .bot, .bot, .bot, .bot, .bot, .bot, .bot, .bot, .bot, .bot] h16 fun e7 env8 h9 =>
  exCase e7 (
    chkSl (env8.getD 6 .bot) fun u11 =>
    Kr (env8.getD 4 .bot) (env8.getD 5 .bot) u11 h9
  ) fun i10 =>
  bif i10 == 0 then (
    chkSl (env8.getD 6 .bot) fun u12 =>
    K0 (env8.getD 4 .bot) (env8.getD 5 .bot) u12 h9
  ) else (
    False
  )
def depotref25_Load_L0w (z3 : Option (Nat × Nat)) (z4 : Int) (z5 : Option Sl) (z6 : Int) (h16 : AH) (Kr : AV → AV → Option Sl → AH → Prop) (K0 : AV → AV → Option Sl → AH → Prop) : Prop :=
  ob z3 fun a17 =>
  ob (AH.cell h16 a17.1 (a17.2 + 1)) fun v18 =>
  chkInt .i64 v18 fun n19 =>
    br (decide (z6 < n19)) (
      depotref21_Flash_Read z3 z4 z6 h16 fun r_022 r_123 h21 =>
        br (r_123 != 0) (
          Kr (.slice none) (.int .i64 r_123) z5 h21
        ) (
          new h21 (.cells [.slice r_022] false) fun i25 h24 =>
          aNews h24 1 (.slice (some ⟨i25, 0, 1, 1, none⟩)) fun x26 n27 =>
          guardR (x26.all AV.scal && true && true) <|
          aAppend h24 1 24 z5 x26 n27 fun s28 h29 =>
            depotref25_Load_L0 z3 z4 s28 (IntKind.wrap .i64 (z6 + 1)) h29 Kr K0
        )
    ) (
      K0 .bot .bot z5 h16
    )
theorem depotref25_Load_L0.eq (z3 : Option (Nat × Nat)) (z4 : Int) (z5 : Option Sl) (z6 : Int) (h16 : AH) (Kr : AV → AV → Option Sl → AH → Prop) (K0 : AV → AV → Option Sl → AH → Prop) : lstep PR (ACall PR M) (ALoop PR M) (M 56) (sub [true, true, false, true, false, false] c56) [.ptr z3, .int .i64 z4, .bot, .bot, .bot, .bot, .slice z5, .int .i64 z6, .bot, .bot, .bot, .bot, .bot, .bot, .bot, .bot, .bot, .bot, .bot, .bot, .bot, .bot, .bot, .bot, .bot, .bot, .bot, .bot, .bot, .bot, .bot, .bot, .bot, .bot] h16 (fun e7 env8 h9 =>
  exCase e7 (
    chkSl (env8.getD 6 .bot) fun u11 =>
    Kr (env8.getD 4 .bot) (env8.getD 5 .bot) u11 h9
  ) fun i10 =>
  bif i10 == 0 then (
    chkSl (env8.getD 6 .bot) fun u12 =>
    K0 (env8.getD 4 .bot) (env8.getD 5 .bot) u12 h9
  ) else (
    False
  )
  ) = depotref25_Load_L0w z3 z4 z5 z6 h16 Kr K0 := by kernel_rfl
theorem depotref25_Load_L0.go {z3 : Option (Nat × Nat)} {z4 : Int} {z5 : Option Sl} {z6 : Int} {h16 : AH} {Kr : AV → AV → Option Sl → AH → Prop} {K0 : AV → AV → Option Sl → AH → Prop} (hh : depotref25_Load_L0w z3 z4 z5 z6 h16 Kr K0) : depotref25_Load_L0 z3 z4 z5 z6 h16 Kr K0 := step_loop' (depotref25_Load_L0.eq z3 z4 z5 z6 h16 Kr K0) hh
def depotref25_Loadw (f_1 : Option (Nat × Nat)) (block_2 : Int) (h : AH) (K : Option Sl → Int → AH → Prop) : Prop :=
    depotref25_Load_L0 f_1 block_2 none 0 h
      (fun u31 u32 u33 h30 =>
        chkSl u31 fun x34 =>
        chkInt .i64 u32 fun n35 =>
        K x34 n35 h30
      )
      (fun u37 u38 u39 h36 =>
          K u39 0 h36
      )
theorem depotref25_Load.eq (f_1 : Option (Nat × Nat)) (block_2 : Int) (h : AH) (K : Option Sl → Int → AH → Prop) : fstep PR (ACall PR M) (ALoop PR M) M 56 [.ptr f_1, .int .i64 block_2] h (fun v1 h2 =>
  asTup v1 fun l3 =>
  asCons l3 fun v4 l5 =>
  chkSl v4 fun x6 =>
  asCons l5 fun v7 l8 =>
  chkInt .i64 v7 fun n9 =>
  asNil l8 <|
  K x6 n9 h2
  ) = depotref25_Loadw f_1 block_2 h K := by kernel_rfl
theorem depotref25_Load.go {f_1 : Option (Nat × Nat)} {block_2 : Int} {h : AH} {K : Option Sl → Int → AH → Prop} (hh : depotref25_Loadw f_1 block_2 h K) : depotref25_Load f_1 block_2 h K := step_call (depotref25_Load.eq f_1 block_2 h K) hh

end Go.Abs
