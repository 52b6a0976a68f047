/- Printed by gen2.py: what functions of the program come to. -/
import Derived.Test.YtdpecfeofcibhaaG0
import Derived.KernelRfl
set_option maxRecDepth 100000
namespace Go.Abs
open Go.Proofs

/-! depot/depotlaw25.RegionScans -/
noncomputable def c3 : Code := bodyOf PR.funcs[3]?
def depotlaw25_RegionScansw (pages_1 : Option Sl) (x__02 : Int) (x__13 : Int) (x__24 : Int) (h : AH) (K : Bool → AH → Prop) : Prop :=
  new h (.cells [.int .i64 x__02, .int .i64 x__13, .int .i64 x__24] false) fun i6 h5 =>
    depotref24_Few pages_1 20 600 h5 fun r9 h8 =>
      br (!r9) (
        depotlaw25_regions h8 fun r12 h11 =>
          K r12 h11
      ) (
        region_Scan pages_1 h8 fun r_0_015 r_0_116 r_0_217 r_118 h14 =>
        new h14 (.cells [.int .i64 0, .bool false, .slice none] false) fun i20 h19 =>
        ob (AH.puts h19 i20 0 [.int .i64 r_0_015, .bool r_0_116, .slice r_0_217]) fun h21 =>
          depotref25_Scan pages_1 h21 fun r_0_024 r_0_125 r_0_226 r_127 h23 =>
          new h23 (.cells [.int .i64 0, .bool false, .slice none] false) fun i29 h28 =>
          ob (AH.puts h28 i29 0 [.int .i64 r_0_024, .bool r_0_125, .slice r_0_226]) fun h30 =>
            hold h30 0 fun h31 =>
            ob (AH.cell h31 i20 0) fun v32 =>
            chkInt .i64 v32 fun n33 =>
            ob (AH.cell h31 i29 0) fun v34 =>
            chkInt .i64 v34 fun n35 =>
            br (n33 == n35) (
              ob (AH.cell h31 i20 1) fun v36 =>
              chkBool v36 fun b37 =>
              ob (AH.cell h31 i29 1) fun v38 =>
              chkBool v38 fun b39 =>
              br (b37 == b39) (
                ob (AH.cell h31 i20 2) fun v40 =>
                chkSl v40 fun x41 =>
                ob (AH.cell h31 i29 2) fun v42 =>
                chkSl v42 fun x43 =>
                depotref25_Items x41 x43 h31 fun r46 h45 =>
                br r46 (
                  br (r_118 == r_127) (
                    ob (AH.cellsAt h45 i6 0 3) fun cs47 =>
                    ints3 .i64 cs47 fun n48 n49 n50 =>
                    ob (AH.cellsAt h45 i6 0 3) fun cs51 =>
                    ints3 .i64 cs51 fun n52 n53 n54 =>
                    region_Parts pages_1 n48 n49 n50 h45 fun r57 h56 =>
                    guardR (Req.ok h56 (.cells i6 0 3 [.int .i64 n52, .int .i64 n53, .int .i64 n54]) && true) <|
                    depotref25_Parts pages_1 n52 n53 n54 h56 fun r60 h59 =>
                    depotref24_Same r57 r60 h59 fun r63 h62 =>
                    br r63 (
                      depotlaw25_regions h62 fun r66 h65 =>
                        K r66 h65
                    ) (
                      K false h62
                    )
                  ) (
                    K false h45
                  )
                ) (
                  K false h45
                )
              ) (
                K false h31
              )
            ) (
              K false h31
            )
      )
theorem depotlaw25_RegionScans.eq (pages_1 : Option Sl) (x__02 : Int) (x__13 : Int) (x__24 : Int) (h : AH) (K : Bool → AH → Prop) : fstep PR (ACall PR M) (ALoop PR M) M 3 [.slice pages_1, .agg [.int .i64 x__02, .int .i64 x__13, .int .i64 x__24]] h (fun v1 h2 =>
  chkBool v1 fun b3 =>
  K b3 h2
  ) = depotlaw25_RegionScansw pages_1 x__02 x__13 x__24 h K := by kernel_rfl
theorem depotlaw25_RegionScans.go {pages_1 : Option Sl} {x__02 : Int} {x__13 : Int} {x__24 : Int} {h : AH} {K : Bool → AH → Prop} (hh : depotlaw25_RegionScansw pages_1 x__02 x__13 x__24 h K) : depotlaw25_RegionScans pages_1 x__02 x__13 x__24 h K := step_call (depotlaw25_RegionScans.eq pages_1 x__02 x__13 x__24 h K) hh

/-! depot/depotref24.Few -/
noncomputable def c8 : Code := bodyOf PR.funcs[8]?
def depotref24_Few_L0 (z4 : Option Sl) (z5 : Int) (z6 : Int) (z7 : Int) (h13 : AH) (Kr : AV → AH → Prop) (K0 : AV → AH → Prop) : Prop := ALoop PR M (M 8) (sub [true, false, true, false, false] c8) [.slice z4, .int .i64 z5, .int .i64 z6, .bot, .bot, .bot, .bot, .int .i64 z7, .bot, .bot, .bot, .bot, .bot, .bot, .bot, .bot, .bot, .bot, .bot, .bot, .bot, .bot, .bot, .bot, .bot, .bot, .bot, .bot, .bot, .bot] h13 fun e8 env9 h10 =>
  exCase e8 (
    guardR (AV.beq (.slice z4) (env9.getD 0 .bot)) <|
    guardR (AV.beq (.int .i64 z5) (env9.getD 1 .bot)) <|
    Kr (env9.getD 6 .bot) h10
  ) fun i11 =>
  bif i11 == 0 then (
    guardR (AV.beq (.slice z4) (env9.getD 0 .bot)) <|
    guardR (AV.beq (.int .i64 z5) (env9.getD 1 .bot)) <|
    K0 (env9.getD 6 .bot) h10
  ) else (
    False
  )
def depotref24_Few_L0w (z4 : Option Sl) (z5 : Int) (z6 : Int) (z7 : Int) (h13 : AH) (Kr : AV → AH → Prop) (K0 : AV → AH → Prop) : Prop :=
  br (decide (z7 < ((lenO z4 : Nat) : Int))) (
    br (decide (z7 ≤ z5)) (
      ob z4 fun s14 =>
      need ((0 : Int) ≤ z7 ∧ z7 < ((s14.len : Nat) : Int)) <|
      ob (AH.cell h13 s14.id (s14.off + Int.toNat z7 * 1)) fun v15 =>
      chkSl v15 fun x16 =>
        br (decide (((lenO x16 : Nat) : Int) > z6)) (
          guardR (AV.beq (.slice z4) (.slice z4)) <|
          guardR (AV.beq (.int .i64 z5) (.int .i64 z5)) <|
          Kr (.bool false) h13
        ) (
          depotref24_Few_L0 z4 z5 z6 (IntKind.wrap .i64 (z7 + 1)) h13 Kr K0
        )
    ) (
      guardR (AV.beq (.slice z4) (.slice z4)) <|
      guardR (AV.beq (.int .i64 z5) (.int .i64 z5)) <|
      K0 .bot h13
    )
  ) (
    guardR (AV.beq (.slice z4) (.slice z4)) <|
    guardR (AV.beq (.int .i64 z5) (.int .i64 z5)) <|
    K0 .bot h13
  )
theorem depotref24_Few_L0.eq (z4 : Option Sl) (z5 : Int) (z6 : Int) (z7 : Int) (h13 : AH) (Kr : AV → AH → Prop) (K0 : AV → AH → Prop) : lstep PR (ACall PR M) (ALoop PR M) (M 8) (sub [true, false, true, false, false] c8) [.slice z4, .int .i64 z5, .int .i64 z6, .bot, .bot, .bot, .bot, .int .i64 z7, .bot, .bot, .bot, .bot, .bot, .bot, .bot, .bot, .bot, .bot, .bot, .bot, .bot, .bot, .bot, .bot, .bot, .bot, .bot, .bot, .bot, .bot] h13 (fun e8 env9 h10 =>
  exCase e8 (
    guardR (AV.beq (.slice z4) (env9.getD 0 .bot)) <|
    guardR (AV.beq (.int .i64 z5) (env9.getD 1 .bot)) <|
    Kr (env9.getD 6 .bot) h10
  ) fun i11 =>
  bif i11 == 0 then (
    guardR (AV.beq (.slice z4) (env9.getD 0 .bot)) <|
    guardR (AV.beq (.int .i64 z5) (env9.getD 1 .bot)) <|
    K0 (env9.getD 6 .bot) h10
  ) else (
    False
  )
  ) = depotref24_Few_L0w z4 z5 z6 z7 h13 Kr K0 := by kernel_rfl
theorem depotref24_Few_L0.go {z4 : Option Sl} {z5 : Int} {z6 : Int} {z7 : Int} {h13 : AH} {Kr : AV → AH → Prop} {K0 : AV → AH → Prop} (hh : depotref24_Few_L0w z4 z5 z6 z7 h13 Kr K0) : depotref24_Few_L0 z4 z5 z6 z7 h13 Kr K0 := step_loop' (depotref24_Few_L0.eq z4 z5 z6 z7 h13 Kr K0) hh
def depotref24_Feww (l_1 : Option Sl) (most_2 : Int) (bytes_3 : Int) (h : AH) (K : Bool → AH → Prop) : Prop :=
    depotref24_Few_L0 l_1 most_2 bytes_3 0 h
      (fun u18 h17 =>
        chkBool u18 fun b19 =>
        K b19 h17
      )
      (fun u21 h20 =>
          K (decide (((lenO l_1 : Nat) : Int) ≤ most_2)) h20
      )
theorem depotref24_Few.eq (l_1 : Option Sl) (most_2 : Int) (bytes_3 : Int) (h : AH) (K : Bool → AH → Prop) : fstep PR (ACall PR M) (ALoop PR M) M 8 [.slice l_1, .int .i64 most_2, .int .i64 bytes_3] h (fun v1 h2 =>
  chkBool v1 fun b3 =>
  K b3 h2
  ) = depotref24_Feww l_1 most_2 bytes_3 h K := by kernel_rfl
theorem depotref24_Few.go {l_1 : Option Sl} {most_2 : Int} {bytes_3 : Int} {h : AH} {K : Bool → AH → Prop} (hh : depotref24_Feww l_1 most_2 bytes_3 h K) : depotref24_Few l_1 most_2 bytes_3 h K := step_call (depotref24_Few.eq l_1 most_2 bytes_3 h K) hh

/-! depot/depotlaw25.regions -/
noncomputable def c9 : Code := bodyOf PR.funcs[9]?
def depotlaw25_regionsw  (h : AH) (K : Bool → AH → Prop) : Prop :=
  depotlaw25_device h fun r_03 r_14 r_25 r_36 h2 =>
  flash_New r_03 r_14 r_25 r_36 h2 fun r_09 r_110 h8 =>
    br (r_110 != 0) (
      K false h8
    ) (
      region_Open r_09 0 7 h8 fun r13 h12 =>
        new h12 (.cells [.int .u8 5] false) fun i15 h14 =>
        new h14 (.cells [.slice (some ⟨i15, 0, 1, 1, none⟩)] false) fun i17 h16 =>
        region_Append r_09 0 7 1 2 (some ⟨i17, 0, 1, 1, none⟩) h16 fun r20 h19 =>
          new h19 (.cells [.int .u8 6] false) fun i22 h21 =>
          new h21 (.cells [.int .u8 7] false) fun i24 h23 =>
          new h23 (.cells [.slice (some ⟨i22, 0, 1, 1, none⟩), .slice (some ⟨i24, 0, 1, 1, none⟩)] false) fun i26 h25 =>
          region_Append r_09 0 7 2 2 (some ⟨i26, 0, 2, 2, none⟩) h25 fun r29 h28 =>
            region_Load r_09 0 h28 fun r_032 r_133 h31 =>
              region_Scan r_032 h31 fun r_0_036 r_0_137 r_0_238 r_139 h35 =>
              new h35 (.cells [.int .i64 0, .bool false, .slice none] false) fun i41 h40 =>
              ob (AH.puts h40 i41 0 [.int .i64 r_0_036, .bool r_0_137, .slice r_0_238]) fun h42 =>
                ob (AH.cell h42 i41 2) fun v43 =>
                chkSl v43 fun x44 =>
                region_Seal r_09 0 7 4 x44 h42 fun r47 h46 =>
                  region_Load r_09 0 h46 fun r_050 r_151 h49 =>
                    region_Scan r_050 h49 fun r_0_054 r_0_155 r_0_256 r_157 h53 =>
                    new h53 (.cells [.int .i64 0, .bool false, .slice none] false) fun i59 h58 =>
                    ob (AH.puts h58 i59 0 [.int .i64 r_0_054, .bool r_0_155, .slice r_0_256]) fun h60 =>
                      region_Parts r_050 2 2 2 h60 fun r63 h62 =>
                        new h62 (.cells [.int .i64 1, .int .i64 2, .int .i64 3] false) fun i65 h64 =>
                        region_KillLoad (some ⟨i65, 0, 1, 1, none⟩) h64 fun r_068 r_169 h67 =>
                          region_Kills r_068 h67 fun r_072 r_173 h71 =>
                            br (r13 == 0) (
                              br (r20 == 0) (
                                br (r29 == 0) (
                                  br (r47 == 0) (
                                    br (r_133 == 0) (
                                      br (r_151 == 0) (
                                        br r_139 (
                                          ob (AH.cell h71 i41 1) fun v74 =>
                                          chkBool v74 fun b75 =>
                                          br (!b75) (
                                            br r_157 (
                                              ob (AH.cell h71 i59 1) fun v76 =>
                                              chkBool v76 fun b77 =>
                                              br b77 (
                                                ob (AH.cell h71 i59 0) fun v78 =>
                                                chkInt .i64 v78 fun n79 =>
                                                br (n79 == 7) (
                                                  ob (AH.cell h71 i59 2) fun v80 =>
                                                  chkSl v80 fun x81 =>
                                                  br (((lenO x81 : Nat) : Int) == 2) (
                                                    ob (AH.cell h71 i41 2) fun v82 =>
                                                    chkSl v82 fun x83 =>
                                                    ob (AH.cell h71 i59 2) fun v84 =>
                                                    chkSl v84 fun x85 =>
                                                    depotref25_Items x83 x85 h71 fun r88 h87 =>
                                                    br r88 (
                                                      br (((lenO r63 : Nat) : Int) == 2) (
                                                        ob r63 fun s89 =>
                                                        need ((0 : Int) ≤ 1 ∧ 1 < ((s89.len : Nat) : Int)) <|
                                                        ob (AH.cell h87 s89.id (s89.off + Int.toNat 1 * 1)) fun v90 =>
                                                        chkSl v90 fun x91 =>
                                                        br (((lenO x91 : Nat) : Int) == 1) (
                                                          ob r63 fun s92 =>
                                                          need ((0 : Int) ≤ 1 ∧ 1 < ((s92.len : Nat) : Int)) <|
                                                          ob (AH.cell h87 s92.id (s92.off + Int.toNat 1 * 1)) fun v93 =>
                                                          chkSl v93 fun x94 =>
                                                          ob x94 fun s95 =>
                                                          need ((0 : Int) ≤ 0 ∧ 0 < ((s95.len : Nat) : Int)) <|
                                                          ob (AH.cell h87 s95.id (s95.off + Int.toNat 0 * 1)) fun v96 =>
                                                          chkInt .u8 v96 fun n97 =>
                                                          br (n97 == 7) (
                                                            br (r_169 == 0) (
                                                              br (((lenO r_068 : Nat) : Int) == 6) (
                                                                br (r_173 == 0) (
                                                                  br (((lenO r_072 : Nat) : Int) == 1) (
                                                                    ob r_072 fun s98 =>
                                                                    need ((0 : Int) ≤ 0 ∧ 0 < ((s98.len : Nat) : Int)) <|
                                                                    ob (AH.cell h87 s98.id (s98.off + Int.toNat 0 * 3 + 2)) fun v99 =>
                                                                    chkInt .i64 v99 fun n100 =>
                                                                      K (n100 == 3) h87
                                                                  ) (
                                                                    K false h87
                                                                  )
                                                                ) (
                                                                  K false h87
                                                                )
                                                              ) (
                                                                K false h87
                                                              )
                                                            ) (
                                                              K false h87
                                                            )
                                                          ) (
                                                            K false h87
                                                          )
                                                        ) (
                                                          K false h87
                                                        )
                                                      ) (
                                                        K false h87
                                                      )
                                                    ) (
                                                      K false h87
                                                    )
                                                  ) (
                                                    K false h71
                                                  )
                                                ) (
                                                  K false h71
                                                )
                                              ) (
                                                K false h71
                                              )
                                            ) (
                                              K false h71
                                            )
                                          ) (
                                            K false h71
                                          )
                                        ) (
                                          K false h71
                                        )
                                      ) (
                                        K false h71
                                      )
                                    ) (
                                      K false h71
                                    )
                                  ) (
                                    K false h71
                                  )
                                ) (
                                  K false h71
                                )
                              ) (
                                K false h71
                              )
                            ) (
                              K false h71
                            )
    )
theorem depotlaw25_regions.eq  (h : AH) (K : Bool → AH → Prop) : fstep PR (ACall PR M) (ALoop PR M) M 9 [] h (fun v1 h2 =>
  chkBool v1 fun b3 =>
  K b3 h2
  ) = depotlaw25_regionsw  h K := by kernel_rfl
theorem depotlaw25_regions.go  {h : AH} {K : Bool → AH → Prop} (hh : depotlaw25_regionsw  h K) : depotlaw25_regions  h K := step_call (depotlaw25_regions.eq  h K) hh

/-! depot/region.Scan -/
noncomputable def c10 : Code := bodyOf PR.funcs[10]?
def region_Scanw (pages_1 : Option Sl) (h : AH) (K : Int → Bool → Option Sl → Bool → AH → Prop) : Prop :=
  new h (.cells [.int .i64 0, .bool false, .slice none] false) fun i3 h2 =>
    region_look pages_1 h2 fun r6 h5 =>
      ob r6 fun a7 =>
      ob (AH.cell h5 a7.1 a7.2) fun v8 =>
      chkSl v8 fun x9 =>
        br (((lenO x9 : Nat) : Int) == 0) (
          ob (AH.puts h5 i3 0 [.int .i64 0, .bool false, .slice none]) fun h10 =>
            ob (AH.cellsAt h10 i3 0 3) fun cs11 =>
            asCons cs11 fun v12 l13 =>
            chkInt .i64 v12 fun n14 =>
            asCons l13 fun v15 l16 =>
            chkBool v15 fun b17 =>
            asCons l16 fun v18 l19 =>
            chkSl v18 fun x20 =>
            asNil l19 <|
            K n14 b17 x20 false h10
        ) (
          ob r6 fun a21 =>
          ob (AH.cell h5 a21.1 a21.2) fun v22 =>
          chkSl v22 fun x23 =>
          ob x23 fun s24 =>
          need ((0 : Int) ≤ 0 ∧ 0 < ((s24.len : Nat) : Int)) <|
          ob (AH.cell h5 s24.id (s24.off + Int.toNat 0 * 7 + 3)) fun v25 =>
          chkInt .i64 v25 fun n26 =>
          ob r6 fun a27 =>
          ob (AH.puts h5 a27.1 (a27.2 + 1) [.int .i64 n26]) fun h28 =>
            region_scanner_says r6 0 1 0 1 0 0 h28 fun r_031 r_132 h30 =>
              br (!r_132) (
                ob (AH.puts h30 i3 0 [.int .i64 0, .bool false, .slice none]) fun h33 =>
                  ob (AH.cellsAt h33 i3 0 3) fun cs34 =>
                  asCons cs34 fun v35 l36 =>
                  chkInt .i64 v35 fun n37 =>
                  asCons l36 fun v38 l39 =>
                  chkBool v38 fun b40 =>
                  asCons l39 fun v41 l42 =>
                  chkSl v41 fun x43 =>
                  asNil l42 <|
                  K n37 b40 x43 false h33
              ) (
                br (decide (((lenO r_031 : Nat) : Int) > 0)) (
                  ob (AH.puts h30 i3 0 [.int .i64 0, .bool false, .slice none]) fun h44 =>
                    ob (AH.cellsAt h44 i3 0 3) fun cs45 =>
                    asCons cs45 fun v46 l47 =>
                    chkInt .i64 v46 fun n48 =>
                    asCons l47 fun v49 l50 =>
                    chkBool v49 fun b51 =>
                    asCons l50 fun v52 l53 =>
                    chkSl v52 fun x54 =>
                    asNil l53 <|
                    K n48 b51 x54 false h44
                ) (
                  ob r6 fun a55 =>
                  ob (AH.cell h30 a55.1 (a55.2 + 2)) fun v56 =>
                  chkInt .i64 v56 fun n57 =>
                    br (decide (n57 > 0)) (
                      region_scanner_seal r6 h30 fun r_060 r_161 h59 =>
                        br r_161 (
                          ob r6 fun a62 =>
                          ob (AH.cell h59 a62.1 (a62.2 + 1)) fun v63 =>
                          chkInt .i64 v63 fun n64 =>
                          ob (AH.puts h59 i3 0 [.int .i64 n64, .bool true, .slice r_060]) fun h65 =>
                            ob (AH.cellsAt h65 i3 0 3) fun cs66 =>
                            asCons cs66 fun v67 l68 =>
                            chkInt .i64 v67 fun n69 =>
                            asCons l68 fun v70 l71 =>
                            chkBool v70 fun b72 =>
                            asCons l71 fun v73 l74 =>
                            chkSl v73 fun x75 =>
                            asNil l74 <|
                            K n69 b72 x75 true h65
                        ) (
                          hold h59 0 fun h76 =>
                          ob r6 fun a77 =>
                          ob (AH.cell h76 a77.1 (a77.2 + 1)) fun v78 =>
                          chkInt .i64 v78 fun n79 =>
                          region_scanner_each r6 61 [.ptr r6] [] h76 fun r82 h81 =>
                          guardR (Req.ok h81 (.cells a77.1 (a77.2 + 1) 1 [.int .i64 n79]) && true) <|
                          ob (AH.puts h81 i3 0 [.int .i64 n79, .bool false, .slice r82]) fun h83 =>
                            ob (AH.cellsAt h83 i3 0 3) fun cs84 =>
                            asCons cs84 fun v85 l86 =>
                            chkInt .i64 v85 fun n87 =>
                            asCons l86 fun v88 l89 =>
                            chkBool v88 fun b90 =>
                            asCons l89 fun v91 l92 =>
                            chkSl v91 fun x93 =>
                            asNil l92 <|
                            K n87 b90 x93 true h83
                        )
                    ) (
                      hold h30 0 fun h94 =>
                      ob r6 fun a95 =>
                      ob (AH.cell h94 a95.1 (a95.2 + 1)) fun v96 =>
                      chkInt .i64 v96 fun n97 =>
                      region_scanner_each r6 61 [.ptr r6] [] h94 fun r100 h99 =>
                      guardR (Req.ok h99 (.cells a95.1 (a95.2 + 1) 1 [.int .i64 n97]) && true) <|
                      ob (AH.puts h99 i3 0 [.int .i64 n97, .bool false, .slice r100]) fun h101 =>
                        ob (AH.cellsAt h101 i3 0 3) fun cs102 =>
                        asCons cs102 fun v103 l104 =>
                        chkInt .i64 v103 fun n105 =>
                        asCons l104 fun v106 l107 =>
                        chkBool v106 fun b108 =>
                        asCons l107 fun v109 l110 =>
                        chkSl v109 fun x111 =>
                        asNil l110 <|
                        K n105 b108 x111 true h101
                    )
                )
              )
        )
theorem region_Scan.eq (pages_1 : Option Sl) (h : AH) (K : Int → Bool → Option Sl → Bool → AH → Prop) : fstep PR (ACall PR M) (ALoop PR M) M 10 [.slice pages_1] h (fun v1 h2 =>
  asTup v1 fun l3 =>
  asCons l3 fun v4 l5 =>
  asAgg v4 fun l6 =>
  asCons l6 fun v7 l8 =>
  chkInt .i64 v7 fun n9 =>
  asCons l8 fun v10 l11 =>
  chkBool v10 fun b12 =>
  asCons l11 fun v13 l14 =>
  chkSl v13 fun x15 =>
  asNil l14 <|
  asCons l5 fun v16 l17 =>
  chkBool v16 fun b18 =>
  asNil l17 <|
  K n9 b12 x15 b18 h2
  ) = region_Scanw pages_1 h K := by kernel_rfl
theorem region_Scan.go {pages_1 : Option Sl} {h : AH} {K : Int → Bool → Option Sl → Bool → AH → Prop} (hh : region_Scanw pages_1 h K) : region_Scan pages_1 h K := step_call (region_Scan.eq pages_1 h K) hh

/-! depot/depotref25.Scan -/
noncomputable def c11 : Code := bodyOf PR.funcs[11]?
def depotref25_Scan_L0 (z63 : Option Sl) (z64 : Option (Nat × Nat)) (z65 : Option (Nat × Nat)) (z66 : Option (Nat × Nat)) (z67 : Int) (h74 : AH) (K0 : Int → AH → Prop) : Prop := ALoop PR M (M 11) (sub [true, true, true, true, true, true, true, false, false, false] c11) [.slice z63, .bot, .ptr z64, .bot, .ptr z65, .bot, .bot, .bot, .bot, .ptr z66, .int .i64 z67, .bot, .bot, .bot, .bot, .bot, .bot, .bot, .bot, .bot, .bot, .bot, .bot, .bot, .bot, .bot, .bot, .bot, .bot, .bot, .bot, .bot, .bot, .bot, .bot, .bot, .bot, .bot, .bot, .bot, .bot, .bot, .bot, .bot, .bot, .bot, .bot, .bot, .bot, .bot, .bot, .bot, .bot, .bot, .bot, .bot, .bot, .bot, .bot, .bot, .bot, .bot, .bot, .bot, .bot, .bot, .bot, .bot, .bot, .bot, .bot, .bot, .bot, .bot, .bot, .bot, .bot, .bot, .bot, .bot, .bot, .bot, .bot, .bot, .bot, .bot, .bot, .bot, .bot, .bot, .bot, .bot, .bot, .bot, .bot, .bot, .bot, .bot, .bot, .bot, .bot, .bot, .bot, .bot, .bot, .bot, .bot, .bot, .bot, .bot, .bot, .bot, .bot] h74 fun e68 env69 h70 =>
  exCase e68 (
    False
  ) fun i71 =>
  bif i71 == 0 then (
    guardR (AV.beq (.slice z63) (env69.getD 0 .bot)) <|
    guardR (AV.beq (.ptr z64) (env69.getD 2 .bot)) <|
    guardR (AV.beq (.ptr z65) (env69.getD 4 .bot)) <|
    guardR (AV.beq (.ptr z66) (env69.getD 9 .bot)) <|
    chkInt .i64 (env69.getD 10 .bot) fun u72 =>
    K0 u72 h70
  ) else (
    False
  )
def depotref25_Scan_L1 (z116 : Option Sl) (z117 : Option (Nat × Nat)) (z118 : Option (Nat × Nat)) (z119 : Option (Nat × Nat)) (z120 : Int) (z121 : Int) (h126 : AH) (K2 : AH → Prop) : Prop := ALoop PR M (M 11) (sub [true, true, true, true, true, true, true, true, true, true, false, false, false] c11) [.slice z116, .bot, .ptr z117, .bot, .ptr z118, .bot, .bot, .bot, .bot, .ptr z119, .int .i64 z120, .bot, .bot, .bot, .bot, .int .i64 z121, .bot, .bot, .bot, .bot, .bot, .bot, .bot, .bot, .bot, .bot, .bot, .bot, .bot, .bot, .bot, .bot, .bot, .bot, .bot, .bot, .bot, .bot, .bot, .bot, .bot, .bot, .bot, .bot, .bot, .bot, .bot, .bot, .bot, .bot, .bot, .bot, .bot, .bot, .bot, .bot, .bot, .bot, .bot, .bot, .bot, .bot, .bot, .bot, .bot, .bot, .bot, .bot, .bot, .bot, .bot, .bot, .bot, .bot, .bot, .bot, .bot, .bot, .bot, .bot, .bot, .bot, .bot, .bot, .bot, .bot, .bot, .bot, .bot, .bot, .bot, .bot, .bot, .bot, .bot, .bot, .bot, .bot, .bot, .bot, .bot, .bot, .bot, .bot, .bot, .bot, .bot, .bot, .bot, .bot, .bot, .bot, .bot] h126 fun e122 env123 h124 =>
  exCase e122 (
    False
  ) fun i125 =>
  bif i125 == 2 then (
    guardR (AV.beq (.ptr z117) (env123.getD 2 .bot)) <|
    guardR (AV.beq (.ptr z119) (env123.getD 9 .bot)) <|
    K2 h124
  ) else (
    False
  )
def depotref25_Scan_L0w (z63 : Option Sl) (z64 : Option (Nat × Nat)) (z65 : Option (Nat × Nat)) (z66 : Option (Nat × Nat)) (z67 : Int) (h74 : AH) (K0 : Int → AH → Prop) : Prop :=
  br (decide (z67 > 0)) (
    ob z63 fun s75 =>
    need ((0 : Int) ≤ z67 ∧ z67 < ((s75.len : Nat) : Int)) <|
    ob (AH.cell h74 s75.id (s75.off + Int.toNat z67 * 1)) fun v76 =>
    chkSl v76 fun x77 =>
    depotref23_Blank x77 h74 fun r80 h79 =>
      br r80 (
        depotref25_Scan_L0 z63 z64 z65 z66 (IntKind.wrap .i64 (z67 - 1)) h79 K0
      ) (
        guardR (AV.beq (.slice z63) (.slice z63)) <|
        guardR (AV.beq (.ptr z64) (.ptr z64)) <|
        guardR (AV.beq (.ptr z65) (.ptr z65)) <|
        guardR (AV.beq (.ptr z66) (.ptr z66)) <|
        K0 z67 h79
      )
  ) (
    guardR (AV.beq (.slice z63) (.slice z63)) <|
    guardR (AV.beq (.ptr z64) (.ptr z64)) <|
    guardR (AV.beq (.ptr z65) (.ptr z65)) <|
    guardR (AV.beq (.ptr z66) (.ptr z66)) <|
    K0 z67 h74
  )
theorem depotref25_Scan_L0.eq (z63 : Option Sl) (z64 : Option (Nat × Nat)) (z65 : Option (Nat × Nat)) (z66 : Option (Nat × Nat)) (z67 : Int) (h74 : AH) (K0 : Int → AH → Prop) : lstep PR (ACall PR M) (ALoop PR M) (M 11) (sub [true, true, true, true, true, true, true, false, false, false] c11) [.slice z63, .bot, .ptr z64, .bot, .ptr z65, .bot, .bot, .bot, .bot, .ptr z66, .int .i64 z67, .bot, .bot, .bot, .bot, .bot, .bot, .bot, .bot, .bot, .bot, .bot, .bot, .bot, .bot, .bot, .bot, .bot, .bot, .bot, .bot, .bot, .bot, .bot, .bot, .bot, .bot, .bot, .bot, .bot, .bot, .bot, .bot, .bot, .bot, .bot, .bot, .bot, .bot, .bot, .bot, .bot, .bot, .bot, .bot, .bot, .bot, .bot, .bot, .bot, .bot, .bot, .bot, .bot, .bot, .bot, .bot, .bot, .bot, .bot, .bot, .bot, .bot, .bot, .bot, .bot, .bot, .bot, .bot, .bot, .bot, .bot, .bot, .bot, .bot, .bot, .bot, .bot, .bot, .bot, .bot, .bot, .bot, .bot, .bot, .bot, .bot, .bot, .bot, .bot, .bot, .bot, .bot, .bot, .bot, .bot, .bot, .bot, .bot, .bot, .bot, .bot, .bot] h74 (fun e68 env69 h70 =>
  exCase e68 (
    False
  ) fun i71 =>
  bif i71 == 0 then (
    guardR (AV.beq (.slice z63) (env69.getD 0 .bot)) <|
    guardR (AV.beq (.ptr z64) (env69.getD 2 .bot)) <|
    guardR (AV.beq (.ptr z65) (env69.getD 4 .bot)) <|
    guardR (AV.beq (.ptr z66) (env69.getD 9 .bot)) <|
    chkInt .i64 (env69.getD 10 .bot) fun u72 =>
    K0 u72 h70
  ) else (
    False
  )
  ) = depotref25_Scan_L0w z63 z64 z65 z66 z67 h74 K0 := by kernel_rfl
theorem depotref25_Scan_L0.go {z63 : Option Sl} {z64 : Option (Nat × Nat)} {z65 : Option (Nat × Nat)} {z66 : Option (Nat × Nat)} {z67 : Int} {h74 : AH} {K0 : Int → AH → Prop} (hh : depotref25_Scan_L0w z63 z64 z65 z66 z67 h74 K0) : depotref25_Scan_L0 z63 z64 z65 z66 z67 h74 K0 := step_loop' (depotref25_Scan_L0.eq z63 z64 z65 z66 z67 h74 K0) hh
def depotref25_Scan_L1w (z116 : Option Sl) (z117 : Option (Nat × Nat)) (z118 : Option (Nat × Nat)) (z119 : Option (Nat × Nat)) (z120 : Int) (z121 : Int) (h126 : AH) (K2 : AH → Prop) : Prop :=
  br (decide (z121 ≤ z120)) (
    ob z118 fun a127 =>
    ob (AH.cell h126 a127.1 (a127.2 + 3)) fun v128 =>
    chkInt .i64 v128 fun n129 =>
    depotref25_found z116 z121 n129 h126 fun r_0_0132 r_0_1133 r_0_2134 r_1135 h131 =>
    new h131 (.cells [.int .i64 0, .int .i64 0, .int .i64 0] false) fun i137 h136 =>
    ob (AH.puts h136 i137 0 [.int .i64 r_0_0132, .int .i64 r_0_1133, .int .i64 r_0_2134]) fun h138 =>
      br r_1135 (
        ob z119 fun a139 =>
        ob (AH.cell h138 a139.1 (a139.2 + 2)) fun v140 =>
        chkSl v140 fun x141 =>
        ob (AH.cellsAt h138 i137 0 3) fun cs142 =>
        ints3 .i64 cs142 fun n143 n144 n145 =>
        new h138 (.cells [.int .i64 n143, .int .i64 n144, .int .i64 n145] false) fun i147 h146 =>
        aNews h146 3 (.slice (some ⟨i147, 0, 1, 1, none⟩)) fun x148 n149 =>
        guardR (x148.all AV.scal && true && true) <|
        aAppend h146 3 24 x141 x148 n149 fun s150 h151 =>
        ob z119 fun a152 =>
        ob (AH.puts h151 a152.1 (a152.2 + 2) [.slice s150]) fun h153 =>
          ob (AH.cell h153 i137 2) fun v154 =>
          chkInt .i64 v154 fun n155 =>
          depotref25_Scan_L1 z116 z117 z118 z119 z120 (IntKind.wrap .i64 (z121 + n155)) h153 K2
      ) (
        depotref25_Scan_L1 z116 z117 z118 z119 z120 (IntKind.wrap .i64 (z121 + 1)) h138 K2
      )
  ) (
    guardR (AV.beq (.ptr z117) (.ptr z117)) <|
    guardR (AV.beq (.ptr z119) (.ptr z119)) <|
    K2 h126
  )
theorem depotref25_Scan_L1.eq (z116 : Option Sl) (z117 : Option (Nat × Nat)) (z118 : Option (Nat × Nat)) (z119 : Option (Nat × Nat)) (z120 : Int) (z121 : Int) (h126 : AH) (K2 : AH → Prop) : lstep PR (ACall PR M) (ALoop PR M) (M 11) (sub [true, true, true, true, true, true, true, true, true, true, false, false, false] c11) [.slice z116, .bot, .ptr z117, .bot, .ptr z118, .bot, .bot, .bot, .bot, .ptr z119, .int .i64 z120, .bot, .bot, .bot, .bot, .int .i64 z121, .bot, .bot, .bot, .bot, .bot, .bot, .bot, .bot, .bot, .bot, .bot, .bot, .bot, .bot, .bot, .bot, .bot, .bot, .bot, .bot, .bot, .bot, .bot, .bot, .bot, .bot, .bot, .bot, .bot, .bot, .bot, .bot, .bot, .bot, .bot, .bot, .bot, .bot, .bot, .bot, .bot, .bot, .bot, .bot, .bot, .bot, .bot, .bot, .bot, .bot, .bot, .bot, .bot, .bot, .bot, .bot, .bot, .bot, .bot, .bot, .bot, .bot, .bot, .bot, .bot, .bot, .bot, .bot, .bot, .bot, .bot, .bot, .bot, .bot, .bot, .bot, .bot, .bot, .bot, .bot, .bot, .bot, .bot, .bot, .bot, .bot, .bot, .bot, .bot, .bot, .bot, .bot, .bot, .bot, .bot, .bot, .bot] h126 (fun e122 env123 h124 =>
  exCase e122 (
    False
  ) fun i125 =>
  bif i125 == 2 then (
    guardR (AV.beq (.ptr z117) (env123.getD 2 .bot)) <|
    guardR (AV.beq (.ptr z119) (env123.getD 9 .bot)) <|
    K2 h124
  ) else (
    False
  )
  ) = depotref25_Scan_L1w z116 z117 z118 z119 z120 z121 h126 K2 := by kernel_rfl
theorem depotref25_Scan_L1.go {z116 : Option Sl} {z117 : Option (Nat × Nat)} {z118 : Option (Nat × Nat)} {z119 : Option (Nat × Nat)} {z120 : Int} {z121 : Int} {h126 : AH} {K2 : AH → Prop} (hh : depotref25_Scan_L1w z116 z117 z118 z119 z120 z121 h126 K2) : depotref25_Scan_L1 z116 z117 z118 z119 z120 z121 h126 K2 := step_loop' (depotref25_Scan_L1.eq z116 z117 z118 z119 z120 z121 h126 K2) hh
def depotref25_Scanw (pages_1 : Option Sl) (h : AH) (K : Int → Bool → Option Sl → Bool → AH → Prop) : Prop :=
  new h (.cells [.int .i64 0, .bool false, .slice none] false) fun i3 h2 =>
    br (((lenO pages_1 : Nat) : Int) == 0) (
      ob (AH.puts h2 i3 0 [.int .i64 0, .bool false, .slice none]) fun h4 =>
        ob (AH.cellsAt h4 i3 0 3) fun cs5 =>
        asCons cs5 fun v6 l7 =>
        chkInt .i64 v6 fun n8 =>
        asCons l7 fun v9 l10 =>
        chkBool v9 fun b11 =>
        asCons l10 fun v12 l13 =>
        chkSl v12 fun x14 =>
        asNil l13 <|
        K n8 b11 x14 false h4
    ) (
      ob pages_1 fun s15 =>
      need ((0 : Int) ≤ 0 ∧ 0 < ((s15.len : Nat) : Int)) <|
      ob (AH.cell h2 s15.id (s15.off + Int.toNat 0 * 1)) fun v16 =>
      chkSl v16 fun x17 =>
      depotref23_Parse x17 h2 fun r_0_020 r_0_121 r_0_222 r_0_323 r_0_424 r_125 r_226 h19 =>
      new h19 (.cells [.int .i64 0, .int .i64 0, .int .i64 0, .int .i64 0, .int .i64 0] false) fun i28 h27 =>
      ob (AH.puts h27 i28 0 [.int .i64 r_0_020, .int .i64 r_0_121, .int .i64 r_0_222, .int .i64 r_0_323, .int .i64 r_0_424]) fun h29 =>
        ob (AH.cell h29 i28 3) fun v30 =>
        chkInt .i64 v30 fun n31 =>
        depotref25_is pages_1 0 1 0 1 n31 0 h29 fun r_034 r_135 h33 =>
          br (!r_135) (
            ob (AH.puts h33 i3 0 [.int .i64 0, .bool false, .slice none]) fun h36 =>
              ob (AH.cellsAt h36 i3 0 3) fun cs37 =>
              asCons cs37 fun v38 l39 =>
              chkInt .i64 v38 fun n40 =>
              asCons l39 fun v41 l42 =>
              chkBool v41 fun b43 =>
              asCons l42 fun v44 l45 =>
              chkSl v44 fun x46 =>
              asNil l45 <|
              K n40 b43 x46 false h36
          ) (
            br (decide (((lenO r_034 : Nat) : Int) > 0)) (
              ob (AH.puts h33 i3 0 [.int .i64 0, .bool false, .slice none]) fun h47 =>
                ob (AH.cellsAt h47 i3 0 3) fun cs48 =>
                asCons cs48 fun v49 l50 =>
                chkInt .i64 v49 fun n51 =>
                asCons l50 fun v52 l53 =>
                chkBool v52 fun b54 =>
                asCons l53 fun v55 l56 =>
                chkSl v55 fun x57 =>
                asNil l56 <|
                K n51 b54 x57 false h47
            ) (
              ob (AH.cell h33 i28 3) fun v58 =>
              chkInt .i64 v58 fun n59 =>
              new h33 (.cells [.int .i64 0, .bool false, .slice none] false) fun i61 h60 =>
              ob (AH.puts h60 i61 0 [.int .i64 n59, .bool false, .slice none]) fun h62 =>
                depotref25_Scan_L0 pages_1 (some (i3, 0)) (some (i28, 0)) (some (i61, 0)) (IntKind.wrap .i64 ((if (16 : Int) < ((lenO pages_1 : Nat) : Int) then 16 else ((lenO pages_1 : Nat) : Int)) - 1)) h62
                  (fun u82 h81 =>
                      br (decide (u82 > 0)) (
                        ob (AH.cell h81 i28 3) fun v83 =>
                        chkInt .i64 v83 fun n84 =>
                        depotref25_is pages_1 u82 4 0 1 n84 u82 h81 fun r_087 r_188 h86 =>
                          br r_188 (
                            depotref25_sealed r_087 u82 h86 fun r_091 r_192 h90 =>
                              br r_192 (
                                ob (AH.puts h90 i61 1 [.bool true]) fun h93 =>
                                  ob (AH.puts h93 i61 2 [.slice r_091]) fun h94 =>
                                    ob (AH.cellsAt h94 i61 0 3) fun cs95 =>
                                    asCons cs95 fun v96 l97 =>
                                    chkInt .i64 v96 fun n98 =>
                                    asCons l97 fun v99 l100 =>
                                    chkBool v99 fun b101 =>
                                    asCons l100 fun v102 l103 =>
                                    chkSl v102 fun x104 =>
                                    asNil l103 <|
                                    ob (AH.puts h94 i3 0 [.int .i64 n98, .bool b101, .slice x104]) fun h105 =>
                                      ob (AH.cellsAt h105 i3 0 3) fun cs106 =>
                                      asCons cs106 fun v107 l108 =>
                                      chkInt .i64 v107 fun n109 =>
                                      asCons l108 fun v110 l111 =>
                                      chkBool v110 fun b112 =>
                                      asCons l111 fun v113 l114 =>
                                      chkSl v113 fun x115 =>
                                      asNil l114 <|
                                      K n109 b112 x115 true h105
                              ) (
                                  depotref25_Scan_L1 pages_1 (some (i3, 0)) (some (i28, 0)) (some (i61, 0)) u82 1 h90
                                    (fun h156 =>
                                      ob (AH.cellsAt h156 i61 0 3) fun cs157 =>
                                      asCons cs157 fun v158 l159 =>
                                      chkInt .i64 v158 fun n160 =>
                                      asCons l159 fun v161 l162 =>
                                      chkBool v161 fun b163 =>
                                      asCons l162 fun v164 l165 =>
                                      chkSl v164 fun x166 =>
                                      asNil l165 <|
                                      ob (AH.puts h156 i3 0 [.int .i64 n160, .bool b163, .slice x166]) fun h167 =>
                                        ob (AH.cellsAt h167 i3 0 3) fun cs168 =>
                                        asCons cs168 fun v169 l170 =>
                                        chkInt .i64 v169 fun n171 =>
                                        asCons l170 fun v172 l173 =>
                                        chkBool v172 fun b174 =>
                                        asCons l173 fun v175 l176 =>
                                        chkSl v175 fun x177 =>
                                        asNil l176 <|
                                        K n171 b174 x177 true h167
                                    )
                              )
                          ) (
                              depotref25_Scan_L1 pages_1 (some (i3, 0)) (some (i28, 0)) (some (i61, 0)) u82 1 h86
                                (fun h178 =>
                                  ob (AH.cellsAt h178 i61 0 3) fun cs179 =>
                                  asCons cs179 fun v180 l181 =>
                                  chkInt .i64 v180 fun n182 =>
                                  asCons l181 fun v183 l184 =>
                                  chkBool v183 fun b185 =>
                                  asCons l184 fun v186 l187 =>
                                  chkSl v186 fun x188 =>
                                  asNil l187 <|
                                  ob (AH.puts h178 i3 0 [.int .i64 n182, .bool b185, .slice x188]) fun h189 =>
                                    ob (AH.cellsAt h189 i3 0 3) fun cs190 =>
                                    asCons cs190 fun v191 l192 =>
                                    chkInt .i64 v191 fun n193 =>
                                    asCons l192 fun v194 l195 =>
                                    chkBool v194 fun b196 =>
                                    asCons l195 fun v197 l198 =>
                                    chkSl v197 fun x199 =>
                                    asNil l198 <|
                                    K n193 b196 x199 true h189
                                )
                          )
                      ) (
                          depotref25_Scan_L1 pages_1 (some (i3, 0)) (some (i28, 0)) (some (i61, 0)) u82 1 h81
                            (fun h200 =>
                              ob (AH.cellsAt h200 i61 0 3) fun cs201 =>
                              asCons cs201 fun v202 l203 =>
                              chkInt .i64 v202 fun n204 =>
                              asCons l203 fun v205 l206 =>
                              chkBool v205 fun b207 =>
                              asCons l206 fun v208 l209 =>
                              chkSl v208 fun x210 =>
                              asNil l209 <|
                              ob (AH.puts h200 i3 0 [.int .i64 n204, .bool b207, .slice x210]) fun h211 =>
                                ob (AH.cellsAt h211 i3 0 3) fun cs212 =>
                                asCons cs212 fun v213 l214 =>
                                chkInt .i64 v213 fun n215 =>
                                asCons l214 fun v216 l217 =>
                                chkBool v216 fun b218 =>
                                asCons l217 fun v219 l220 =>
                                chkSl v219 fun x221 =>
                                asNil l220 <|
                                K n215 b218 x221 true h211
                            )
                      )
                  )
            )
          )
    )
theorem depotref25_Scan.eq (pages_1 : Option Sl) (h : AH) (K : Int → Bool → Option Sl → Bool → AH → Prop) : fstep PR (ACall PR M) (ALoop PR M) M 11 [.slice pages_1] h (fun v1 h2 =>
  asTup v1 fun l3 =>
  asCons l3 fun v4 l5 =>
  asAgg v4 fun l6 =>
  asCons l6 fun v7 l8 =>
  chkInt .i64 v7 fun n9 =>
  asCons l8 fun v10 l11 =>
  chkBool v10 fun b12 =>
  asCons l11 fun v13 l14 =>
  chkSl v13 fun x15 =>
  asNil l14 <|
  asCons l5 fun v16 l17 =>
  chkBool v16 fun b18 =>
  asNil l17 <|
  K n9 b12 x15 b18 h2
  ) = depotref25_Scanw pages_1 h K := by kernel_rfl
theorem depotref25_Scan.go {pages_1 : Option Sl} {h : AH} {K : Int → Bool → Option Sl → Bool → AH → Prop} (hh : depotref25_Scanw pages_1 h K) : depotref25_Scan pages_1 h K := step_call (depotref25_Scan.eq pages_1 h K) hh

/-! depot/depotref25.Items -/
noncomputable def c12 : Code := bodyOf PR.funcs[12]?
def depotref25_Items_L0 (z3 : Option Sl) (z4 : Option Sl) (z5 : Int) (h11 : AH) (Kr : AV → AH → Prop) (K0 : AV → AH → Prop) : Prop := ALoop PR M (M 12) (sub [true, true, false, true, false, false] c12) [.slice z3, .slice z4, .bot, .bot, .bot, .int .i64 z5, .bot, .bot, .bot, .bot, .bot, .bot, .bot, .bot, .bot, .bot, .bot, .bot, .bot, .bot, .bot, .bot, .bot, .bot, .bot, .bot] h11 fun e6 env7 h8 =>
  exCase e6 (
    Kr (env7.getD 4 .bot) h8
  ) fun i9 =>
  bif i9 == 0 then (
    K0 (env7.getD 4 .bot) h8
  ) else (
    False
  )
def depotref25_Items_L0w (z3 : Option Sl) (z4 : Option Sl) (z5 : Int) (h11 : AH) (Kr : AV → AH → Prop) (K0 : AV → AH → Prop) : Prop :=
  br (decide (z5 < ((lenO z3 : Nat) : Int))) (
    hold h11 0 fun h12 =>
    ob z3 fun s13 =>
    need ((0 : Int) ≤ z5 ∧ z5 < ((s13.len : Nat) : Int)) <|
    ob (AH.cellsAt h12 s13.id (s13.off + Int.toNat z5 * 3) 3) fun cs14 =>
    ints3 .i64 cs14 fun n15 n16 n17 =>
    ob z4 fun s18 =>
    need ((0 : Int) ≤ z5 ∧ z5 < ((s18.len : Nat) : Int)) <|
    ob (AH.cellsAt h12 s18.id (s18.off + Int.toNat z5 * 3) 3) fun cs19 =>
    ints3 .i64 cs19 fun n20 n21 n22 =>
      br (!((n15 == n20) && ((n16 == n21) && ((n17 == n22) && true)))) (
        Kr (.bool false) h12
      ) (
        depotref25_Items_L0 z3 z4 (IntKind.wrap .i64 (z5 + 1)) h12 Kr K0
      )
  ) (
    K0 .bot h11
  )
theorem depotref25_Items_L0.eq (z3 : Option Sl) (z4 : Option Sl) (z5 : Int) (h11 : AH) (Kr : AV → AH → Prop) (K0 : AV → AH → Prop) : lstep PR (ACall PR M) (ALoop PR M) (M 12) (sub [true, true, false, true, false, false] c12) [.slice z3, .slice z4, .bot, .bot, .bot, .int .i64 z5, .bot, .bot, .bot, .bot, .bot, .bot, .bot, .bot, .bot, .bot, .bot, .bot, .bot, .bot, .bot, .bot, .bot, .bot, .bot, .bot] h11 (fun e6 env7 h8 =>
  exCase e6 (
    Kr (env7.getD 4 .bot) h8
  ) fun i9 =>
  bif i9 == 0 then (
    K0 (env7.getD 4 .bot) h8
  ) else (
    False
  )
  ) = depotref25_Items_L0w z3 z4 z5 h11 Kr K0 := by kernel_rfl
theorem depotref25_Items_L0.go {z3 : Option Sl} {z4 : Option Sl} {z5 : Int} {h11 : AH} {Kr : AV → AH → Prop} {K0 : AV → AH → Prop} (hh : depotref25_Items_L0w z3 z4 z5 h11 Kr K0) : depotref25_Items_L0 z3 z4 z5 h11 Kr K0 := step_loop' (depotref25_Items_L0.eq z3 z4 z5 h11 Kr K0) hh
def depotref25_Itemsw (a_1 : Option Sl) (b_2 : Option Sl) (h : AH) (K : Bool → AH → Prop) : Prop :=
    br (((lenO a_1 : Nat) : Int) != ((lenO b_2 : Nat) : Int)) (
      K false h
    ) (
        depotref25_Items_L0 a_1 b_2 0 h
          (fun u25 h24 =>
            chkBool u25 fun b26 =>
            K b26 h24
          )
          (fun u28 h27 =>
              K true h27
          )
    )
theorem depotref25_Items.eq (a_1 : Option Sl) (b_2 : Option Sl) (h : AH) (K : Bool → AH → Prop) : fstep PR (ACall PR M) (ALoop PR M) M 12 [.slice a_1, .slice b_2] h (fun v1 h2 =>
  chkBool v1 fun b3 =>
  K b3 h2
  ) = depotref25_Itemsw a_1 b_2 h K := by kernel_rfl
theorem depotref25_Items.go {a_1 : Option Sl} {b_2 : Option Sl} {h : AH} {K : Bool → AH → Prop} (hh : depotref25_Itemsw a_1 b_2 h K) : depotref25_Items a_1 b_2 h K := step_call (depotref25_Items.eq a_1 b_2 h K) hh

/-! depot/depotref24.Same -/
noncomputable def c13 : Code := bodyOf PR.funcs[13]?
def depotref24_Same_L0 (z3 : Option Sl) (z4 : Option Sl) (z5 : Int) (h11 : AH) (Kr : AV → AH → Prop) (K0 : AV → AH → Prop) : Prop := ALoop PR M (M 13) (sub [true, true, false, true, false, false] c13) [.slice z3, .slice z4, .bot, .bot, .bot, .int .i64 z5, .bot, .bot, .bot, .bot, .bot, .bot, .bot, .bot, .bot, .bot, .bot, .bot, .bot, .bot, .bot, .bot, .bot, .bot, .bot, .bot, .bot, .bot] h11 fun e6 env7 h8 =>
  exCase e6 (
    Kr (env7.getD 4 .bot) h8
  ) fun i9 =>
  bif i9 == 0 then (
    K0 (env7.getD 4 .bot) h8
  ) else (
    False
  )
def depotref24_Same_L0w (z3 : Option Sl) (z4 : Option Sl) (z5 : Int) (h11 : AH) (Kr : AV → AH → Prop) (K0 : AV → AH → Prop) : Prop :=
  br (decide (z5 < ((lenO z3 : Nat) : Int))) (
    hold h11 0 fun h12 =>
    ob z3 fun s13 =>
    need ((0 : Int) ≤ z5 ∧ z5 < ((s13.len : Nat) : Int)) <|
    ob (AH.cell h12 s13.id (s13.off + Int.toNat z5 * 1)) fun v14 =>
    chkSl v14 fun x15 =>
    aBytes h12 x15 fun q16 y17 =>
    ob z4 fun s18 =>
    need ((0 : Int) ≤ z5 ∧ z5 < ((s18.len : Nat) : Int)) <|
    ob (AH.cell h12 s18.id (s18.off + Int.toNat z5 * 1)) fun v19 =>
    chkSl v19 fun x20 =>
    aBytes h12 x20 fun q21 y22 =>
      br (!(y17 == y22)) (
        Kr (.bool false) h12
      ) (
        depotref24_Same_L0 z3 z4 (IntKind.wrap .i64 (z5 + 1)) h12 Kr K0
      )
  ) (
    K0 .bot h11
  )
theorem depotref24_Same_L0.eq (z3 : Option Sl) (z4 : Option Sl) (z5 : Int) (h11 : AH) (Kr : AV → AH → Prop) (K0 : AV → AH → Prop) : lstep PR (ACall PR M) (ALoop PR M) (M 13) (sub [true, true, false, true, false, false] c13) [.slice z3, .slice z4, .bot, .bot, .bot, .int .i64 z5, .bot, .bot, .bot, .bot, .bot, .bot, .bot, .bot, .bot, .bot, .bot, .bot, .bot, .bot, .bot, .bot, .bot, .bot, .bot, .bot, .bot, .bot] h11 (fun e6 env7 h8 =>
  exCase e6 (
    Kr (env7.getD 4 .bot) h8
  ) fun i9 =>
  bif i9 == 0 then (
    K0 (env7.getD 4 .bot) h8
  ) else (
    False
  )
  ) = depotref24_Same_L0w z3 z4 z5 h11 Kr K0 := by kernel_rfl
theorem depotref24_Same_L0.go {z3 : Option Sl} {z4 : Option Sl} {z5 : Int} {h11 : AH} {Kr : AV → AH → Prop} {K0 : AV → AH → Prop} (hh : depotref24_Same_L0w z3 z4 z5 h11 Kr K0) : depotref24_Same_L0 z3 z4 z5 h11 Kr K0 := step_loop' (depotref24_Same_L0.eq z3 z4 z5 h11 Kr K0) hh
def depotref24_Samew (a_1 : Option Sl) (b_2 : Option Sl) (h : AH) (K : Bool → AH → Prop) : Prop :=
    br (((lenO a_1 : Nat) : Int) != ((lenO b_2 : Nat) : Int)) (
      K false h
    ) (
        depotref24_Same_L0 a_1 b_2 0 h
          (fun u24 h23 =>
            chkBool u24 fun b25 =>
            K b25 h23
          )
          (fun u27 h26 =>
              K true h26
          )
    )
theorem depotref24_Same.eq (a_1 : Option Sl) (b_2 : Option Sl) (h : AH) (K : Bool → AH → Prop) : fstep PR (ACall PR M) (ALoop PR M) M 13 [.slice a_1, .slice b_2] h (fun v1 h2 =>
  chkBool v1 fun b3 =>
  K b3 h2
  ) = depotref24_Samew a_1 b_2 h K := by kernel_rfl
theorem depotref24_Same.go {a_1 : Option Sl} {b_2 : Option Sl} {h : AH} {K : Bool → AH → Prop} (hh : depotref24_Samew a_1 b_2 h K) : depotref24_Same a_1 b_2 h K := step_call (depotref24_Same.eq a_1 b_2 h K) hh

/-! depot/region.Parts -/
noncomputable def c14 : Code := bodyOf PR.funcs[14]?
def region_Parts_L0 (z7 : Option Sl) (z8 : Option (Nat × Nat)) (z9 : Option Sl) (z10 : Int) (h19 : AH) (Kr : AV → Option Sl → AH → Prop) (K0 : AV → Option Sl → AH → Prop) : Prop := ALoop PR M (M 14) (sub [true, true, false, true, false, false] c14) [.slice z7, .bot, .bot, .ptr z8, .bot, .slice z9, .int .i64 z10, .bot, .bot, .bot, .bot, .bot, .bot, .bot, .bot, .bot, .bot, .bot, .bot, .bot, .bot, .bot, .bot, .bot, .bot, .bot, .bot, .bot, .bot, .bot, .bot, .bot, .bot, .bot, .bot, .bot, .bot, .bot, .bot, .bot, .bot, .bot, .bot, .bot, .bot, .bot, .bot] h19 fun e11 env12 h13 =>
  exCase e11 (
    chkSl (env12.getD 5 .bot) fun u15 =>
    Kr (env12.getD 4 .bot) u15 h13
  ) fun i14 =>
  bif i14 == 0 then (
    chkSl (env12.getD 5 .bot) fun u16 =>
    K0 (env12.getD 4 .bot) u16 h13
  ) else (
    False
  )
def region_Parts_L0w (z7 : Option Sl) (z8 : Option (Nat × Nat)) (z9 : Option Sl) (z10 : Int) (h19 : AH) (Kr : AV → Option Sl → AH → Prop) (K0 : AV → Option Sl → AH → Prop) : Prop :=
  ob z8 fun a20 =>
  ob (AH.cell h19 a20.1 (a20.2 + 2)) fun v21 =>
  chkInt .i64 v21 fun n22 =>
    br (decide (z10 < n22)) (
      ob z8 fun a23 =>
      ob (AH.cell h19 a23.1 (a23.2 + 1)) fun v24 =>
      chkInt .i64 v24 fun n25 =>
      br (decide (n25 < 0)) (
          Kr (.slice none) z9 h19
      ) (
        ob z8 fun a26 =>
        ob (AH.cell h19 a26.1 (a26.2 + 1)) fun v27 =>
        chkInt .i64 v27 fun n28 =>
          br (decide (n28 ≥ (IntKind.wrap .i64 (((lenO z7 : Nat) : Int) - z10)))) (
            Kr (.slice none) z9 h19
          ) (
            ob z8 fun a29 =>
            ob (AH.cell h19 a29.1 (a29.2 + 1)) fun v30 =>
            chkInt .i64 v30 fun n31 =>
            ob z7 fun s32 =>
            need ((0 : Int) ≤ IntKind.wrap .i64 (n31 + z10) ∧ IntKind.wrap .i64 (n31 + z10) < ((s32.len : Nat) : Int)) <|
            ob (AH.cell h19 s32.id (s32.off + Int.toNat (IntKind.wrap .i64 (n31 + z10)) * 1)) fun v33 =>
            chkSl v33 fun x34 =>
            page_Parse x34 h19 fun r_0_037 r_0_138 r_0_239 r_0_340 r_0_441 r_142 r_243 h36 =>
            new h36 (.cells [.int .i64 0, .int .i64 0, .int .i64 0, .int .i64 0, .int .i64 0] false) fun i45 h44 =>
            ob (AH.puts h44 i45 0 [.int .i64 r_0_037, .int .i64 r_0_138, .int .i64 r_0_239, .int .i64 r_0_340, .int .i64 r_0_441]) fun h46 =>
              br (r_243 != 0) (
                Kr (.slice none) z9 h46
              ) (
                new h46 (.cells [.slice r_142] false) fun i48 h47 =>
                aNews h47 1 (.slice (some ⟨i48, 0, 1, 1, none⟩)) fun x49 n50 =>
                guardR (x49.all AV.scal && true && true) <|
                aAppend h47 1 24 z9 x49 n50 fun s51 h52 =>
                  region_Parts_L0 z7 z8 s51 (IntKind.wrap .i64 (z10 + 1)) h52 Kr K0
              )
          )
      )
    ) (
      K0 .bot z9 h19
    )
theorem region_Parts_L0.eq (z7 : Option Sl) (z8 : Option (Nat × Nat)) (z9 : Option Sl) (z10 : Int) (h19 : AH) (Kr : AV → Option Sl → AH → Prop) (K0 : AV → Option Sl → AH → Prop) : lstep PR (ACall PR M) (ALoop PR M) (M 14) (sub [true, true, false, true, false, false] c14) [.slice z7, .bot, .bot, .ptr z8, .bot, .slice z9, .int .i64 z10, .bot, .bot, .bot, .bot, .bot, .bot, .bot, .bot, .bot, .bot, .bot, .bot, .bot, .bot, .bot, .bot, .bot, .bot, .bot, .bot, .bot, .bot, .bot, .bot, .bot, .bot, .bot, .bot, .bot, .bot, .bot, .bot, .bot, .bot, .bot, .bot, .bot, .bot, .bot, .bot] h19 (fun e11 env12 h13 =>
  exCase e11 (
    chkSl (env12.getD 5 .bot) fun u15 =>
    Kr (env12.getD 4 .bot) u15 h13
  ) fun i14 =>
  bif i14 == 0 then (
    chkSl (env12.getD 5 .bot) fun u16 =>
    K0 (env12.getD 4 .bot) u16 h13
  ) else (
    False
  )
  ) = region_Parts_L0w z7 z8 z9 z10 h19 Kr K0 := by kernel_rfl
theorem region_Parts_L0.go {z7 : Option Sl} {z8 : Option (Nat × Nat)} {z9 : Option Sl} {z10 : Int} {h19 : AH} {Kr : AV → Option Sl → AH → Prop} {K0 : AV → Option Sl → AH → Prop} (hh : region_Parts_L0w z7 z8 z9 z10 h19 Kr K0) : region_Parts_L0 z7 z8 z9 z10 h19 Kr K0 := step_loop' (region_Parts_L0.eq z7 z8 z9 z10 h19 Kr K0) hh
def region_Partsw (pages_1 : Option Sl) (x__02 : Int) (x__13 : Int) (x__24 : Int) (h : AH) (K : Option Sl → AH → Prop) : Prop :=
  new h (.cells [.int .i64 x__02, .int .i64 x__13, .int .i64 x__24] false) fun i6 h5 =>
      region_Parts_L0 pages_1 (some (i6, 0)) none 0 h5
        (fun u54 u55 h53 =>
          chkSl u54 fun x56 =>
          K x56 h53
        )
        (fun u58 u59 h57 =>
            K u59 h57
        )
theorem region_Parts.eq (pages_1 : Option Sl) (x__02 : Int) (x__13 : Int) (x__24 : Int) (h : AH) (K : Option Sl → AH → Prop) : fstep PR (ACall PR M) (ALoop PR M) M 14 [.slice pages_1, .agg [.int .i64 x__02, .int .i64 x__13, .int .i64 x__24]] h (fun v1 h2 =>
  chkSl v1 fun x3 =>
  K x3 h2
  ) = region_Partsw pages_1 x__02 x__13 x__24 h K := by kernel_rfl
theorem region_Parts.go {pages_1 : Option Sl} {x__02 : Int} {x__13 : Int} {x__24 : Int} {h : AH} {K : Option Sl → AH → Prop} (hh : region_Partsw pages_1 x__02 x__13 x__24 h K) : region_Parts pages_1 x__02 x__13 x__24 h K := step_call (region_Parts.eq pages_1 x__02 x__13 x__24 h K) hh

/-! depot/depotref25.Parts -/
noncomputable def c15 : Code := bodyOf PR.funcs[15]?
def depotref25_Parts_L0 (z7 : Option Sl) (z8 : Option (Nat × Nat)) (z9 : Option Sl) (z10 : Int) (h19 : AH) (Kr : AV → Option Sl → AH → Prop) (K0 : AV → Option Sl → AH → Prop) : Prop := ALoop PR M (M 15) (sub [true, true, false, true, false, false] c15) [.slice z7, .bot, .bot, .ptr z8, .bot, .slice z9, .int .i64 z10, .bot, .bot, .bot, .bot, .bot, .bot, .bot, .bot, .bot, .bot, .bot, .bot, .bot, .bot, .bot, .bot, .bot, .bot, .bot, .bot, .bot, .bot, .bot, .bot, .bot, .bot, .bot, .bot, .bot, .bot, .bot, .bot, .bot, .bot, .bot, .bot, .bot, .bot, .bot, .bot, .bot, .bot, .bot, .bot, .bot, .bot, .bot] h19 fun e11 env12 h13 =>
  exCase e11 (
    chkSl (env12.getD 5 .bot) fun u15 =>
    Kr (env12.getD 4 .bot) u15 h13
  ) fun i14 =>
  bif i14 == 0 then (
    chkSl (env12.getD 5 .bot) fun u16 =>
    K0 (env12.getD 4 .bot) u16 h13
  ) else (
    False
  )
def depotref25_Parts_L0w (z7 : Option Sl) (z8 : Option (Nat × Nat)) (z9 : Option Sl) (z10 : Int) (h19 : AH) (Kr : AV → Option Sl → AH → Prop) (K0 : AV → Option Sl → AH → Prop) : Prop :=
  ob z8 fun a20 =>
  ob (AH.cell h19 a20.1 (a20.2 + 2)) fun v21 =>
  chkInt .i64 v21 fun n22 =>
    br (decide (z10 < n22)) (
      ob z8 fun a23 =>
      ob (AH.cell h19 a23.1 (a23.2 + 1)) fun v24 =>
      chkInt .i64 v24 fun n25 =>
      br (decide (n25 < 0)) (
          Kr (.slice none) z9 h19
      ) (
        ob z8 fun a26 =>
        ob (AH.cell h19 a26.1 (a26.2 + 1)) fun v27 =>
        chkInt .i64 v27 fun n28 =>
        br (decide (n28 ≥ ((lenO z7 : Nat) : Int))) (
            Kr (.slice none) z9 h19
        ) (
          ob z8 fun a29 =>
          ob (AH.cell h19 a29.1 (a29.2 + 1)) fun v30 =>
          chkInt .i64 v30 fun n31 =>
            br (decide ((IntKind.wrap .i64 (n31 + z10)) ≥ ((lenO z7 : Nat) : Int))) (
              Kr (.slice none) z9 h19
            ) (
              ob z8 fun a32 =>
              ob (AH.cell h19 a32.1 (a32.2 + 1)) fun v33 =>
              chkInt .i64 v33 fun n34 =>
              ob z7 fun s35 =>
              need ((0 : Int) ≤ IntKind.wrap .i64 (n34 + z10) ∧ IntKind.wrap .i64 (n34 + z10) < ((s35.len : Nat) : Int)) <|
              ob (AH.cell h19 s35.id (s35.off + Int.toNat (IntKind.wrap .i64 (n34 + z10)) * 1)) fun v36 =>
              chkSl v36 fun x37 =>
              depotref23_Parse x37 h19 fun r_0_040 r_0_141 r_0_242 r_0_343 r_0_444 r_145 r_246 h39 =>
              new h39 (.cells [.int .i64 0, .int .i64 0, .int .i64 0, .int .i64 0, .int .i64 0] false) fun i48 h47 =>
              ob (AH.puts h47 i48 0 [.int .i64 r_0_040, .int .i64 r_0_141, .int .i64 r_0_242, .int .i64 r_0_343, .int .i64 r_0_444]) fun h49 =>
                br (r_246 != 0) (
                  Kr (.slice none) z9 h49
                ) (
                  new h49 (.cells [.slice r_145] false) fun i51 h50 =>
                  aNews h50 1 (.slice (some ⟨i51, 0, 1, 1, none⟩)) fun x52 n53 =>
                  guardR (x52.all AV.scal && true && true) <|
                  aAppend h50 1 24 z9 x52 n53 fun s54 h55 =>
                    depotref25_Parts_L0 z7 z8 s54 (IntKind.wrap .i64 (z10 + 1)) h55 Kr K0
                )
            )
        )
      )
    ) (
      K0 .bot z9 h19
    )
theorem depotref25_Parts_L0.eq (z7 : Option Sl) (z8 : Option (Nat × Nat)) (z9 : Option Sl) (z10 : Int) (h19 : AH) (Kr : AV → Option Sl → AH → Prop) (K0 : AV → Option Sl → AH → Prop) : lstep PR (ACall PR M) (ALoop PR M) (M 15) (sub [true, true, false, true, false, false] c15) [.slice z7, .bot, .bot, .ptr z8, .bot, .slice z9, .int .i64 z10, .bot, .bot, .bot, .bot, .bot, .bot, .bot, .bot, .bot, .bot, .bot, .bot, .bot, .bot, .bot, .bot, .bot, .bot, .bot, .bot, .bot, .bot, .bot, .bot, .bot, .bot, .bot, .bot, .bot, .bot, .bot, .bot, .bot, .bot, .bot, .bot, .bot, .bot, .bot, .bot, .bot, .bot, .bot, .bot, .bot, .bot, .bot] h19 (fun e11 env12 h13 =>
  exCase e11 (
    chkSl (env12.getD 5 .bot) fun u15 =>
    Kr (env12.getD 4 .bot) u15 h13
  ) fun i14 =>
  bif i14 == 0 then (
    chkSl (env12.getD 5 .bot) fun u16 =>
    K0 (env12.getD 4 .bot) u16 h13
  ) else (
    False
  )
  ) = depotref25_Parts_L0w z7 z8 z9 z10 h19 Kr K0 := by kernel_rfl
theorem depotref25_Parts_L0.go {z7 : Option Sl} {z8 : Option (Nat × Nat)} {z9 : Option Sl} {z10 : Int} {h19 : AH} {Kr : AV → Option Sl → AH → Prop} {K0 : AV → Option Sl → AH → Prop} (hh : depotref25_Parts_L0w z7 z8 z9 z10 h19 Kr K0) : depotref25_Parts_L0 z7 z8 z9 z10 h19 Kr K0 := step_loop' (depotref25_Parts_L0.eq z7 z8 z9 z10 h19 Kr K0) hh
def depotref25_Partsw (pages_1 : Option Sl) (x__02 : Int) (x__13 : Int) (x__24 : Int) (h : AH) (K : Option Sl → AH → Prop) : Prop :=
  new h (.cells [.int .i64 x__02, .int .i64 x__13, .int .i64 x__24] false) fun i6 h5 =>
      depotref25_Parts_L0 pages_1 (some (i6, 0)) none 0 h5
        (fun u57 u58 h56 =>
          chkSl u57 fun x59 =>
          K x59 h56
        )
        (fun u61 u62 h60 =>
            K u62 h60
        )
theorem depotref25_Parts.eq (pages_1 : Option Sl) (x__02 : Int) (x__13 : Int) (x__24 : Int) (h : AH) (K : Option Sl → AH → Prop) : fstep PR (ACall PR M) (ALoop PR M) M 15 [.slice pages_1, .agg [.int .i64 x__02, .int .i64 x__13, .int .i64 x__24]] h (fun v1 h2 =>
  chkSl v1 fun x3 =>
  K x3 h2
  ) = depotref25_Partsw pages_1 x__02 x__13 x__24 h K := by kernel_rfl
theorem depotref25_Parts.go {pages_1 : Option Sl} {x__02 : Int} {x__13 : Int} {x__24 : Int} {h : AH} {K : Option Sl → AH → Prop} (hh : depotref25_Partsw pages_1 x__02 x__13 x__24 h K) : depotref25_Parts pages_1 x__02 x__13 x__24 h K := step_call (depotref25_Parts.eq pages_1 x__02 x__13 x__24 h K) hh

end Go.Abs
