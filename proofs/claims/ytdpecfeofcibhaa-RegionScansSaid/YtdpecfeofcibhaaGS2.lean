/- Printed by gen2.py: what functions of the program come to. -/
import Derived.Test.YtdpecfeofcibhaaG0
import Derived.KernelRfl
set_option maxRecDepth 100000
namespace Go.Abs
open Go.Proofs

/-! depot/depotref23.Parse -/
noncomputable def c62 : Code := bodyOf PR.funcs[62]?
def depotref23_Parsew (b_1 : Option Sl) (h : AH) (K : Int → Int → Int → Int → Int → Option Sl → Int → AH → Prop) : Prop :=
  new h (.cells [.int .i64 0, .int .i64 0, .int .i64 0, .int .i64 0, .int .i64 0] false) fun i3 h2 =>
    depotref23_sized ((lenO b_1 : Nat) : Int) h2 fun r6 h5 =>
      br (!r6) (
        ob (AH.puts h5 i3 0 [.int .i64 0, .int .i64 0, .int .i64 0, .int .i64 0, .int .i64 0]) fun h7 =>
          ob (AH.cellsAt h7 i3 0 5) fun cs8 =>
          ints5 .i64 cs8 fun n9 n10 n11 n12 n13 =>
          K n9 n10 n11 n12 n13 none 2 h7
      ) (
        depotref23_Blank b_1 h5 fun r16 h15 =>
          br r16 (
            ob (AH.puts h15 i3 0 [.int .i64 0, .int .i64 0, .int .i64 0, .int .i64 0, .int .i64 0]) fun h17 =>
              ob (AH.cellsAt h17 i3 0 5) fun cs18 =>
              ints5 .i64 cs18 fun n19 n20 n21 n22 n23 =>
              K n19 n20 n21 n22 n23 none 15 h17
          ) (
            depotref03_Get b_1 (IntKind.wrap .i64 (((lenO b_1 : Nat) : Int) - 4)) 4 h15 fun r_026 r_127 h25 =>
              need ((0 : Int) ≤ IntKind.wrap .i64 (((lenO b_1 : Nat) : Int) - 4) ∧ IntKind.wrap .i64 (((lenO b_1 : Nat) : Int) - 4) ≤ ((lenO b_1 : Nat) : Int)) <|
              guardR (cutOkO 1 b_1) <|
              depotref04_Sum (cutO 1 0 (Int.toNat (IntKind.wrap .i64 (((lenO b_1 : Nat) : Int) - 4))) b_1) h25 fun r30 h29 =>
                br (r_026 != r30) (
                  ob (AH.puts h29 i3 0 [.int .i64 0, .int .i64 0, .int .i64 0, .int .i64 0, .int .i64 0]) fun h31 =>
                    ob (AH.cellsAt h31 i3 0 5) fun cs32 =>
                    ints5 .i64 cs32 fun n33 n34 n35 n36 n37 =>
                    K n33 n34 n35 n36 n37 none 12 h31
                ) (
                  depotref03_Get b_1 4 4 h29 fun r_040 r_141 h39 =>
                    depotref03_Get b_1 10 2 h39 fun r_044 r_145 h43 =>
                      hold h43 1 fun h46 =>
                      ob b_1 fun s47 =>
                      need ((0 : Int) ≤ 0 ∧ 0 < ((s47.len : Nat) : Int)) <|
                      ob (AH.cell h46 s47.id (s47.off + Int.toNat 0 * 1)) fun v48 =>
                      chkInt .u8 v48 fun n49 =>
                      ob b_1 fun s50 =>
                      need ((0 : Int) ≤ 1 ∧ 1 < ((s50.len : Nat) : Int)) <|
                      ob (AH.cell h46 s50.id (s50.off + Int.toNat 1 * 1)) fun v51 =>
                      chkInt .u8 v51 fun n52 =>
                      ob b_1 fun s53 =>
                      need ((0 : Int) ≤ 2 ∧ 2 < ((s53.len : Nat) : Int)) <|
                      ob (AH.cell h46 s53.id (s53.off + Int.toNat 2 * 1)) fun v54 =>
                      chkInt .u8 v54 fun n55 =>
                      ob b_1 fun s56 =>
                      need ((0 : Int) ≤ 8 ∧ 8 < ((s56.len : Nat) : Int)) <|
                      ob (AH.cell h46 s56.id (s56.off + Int.toNat 8 * 1)) fun v57 =>
                      chkInt .u8 v57 fun n58 =>
                      birth h46 (h43.length + 0) (.cells [.int .i64 0, .int .i64 0, .int .i64 0, .int .i64 0, .int .i64 0] false) fun h59 =>
                      ob (AH.puts h59 (h43.length + 0) 0 [.int .i64 (IntKind.wrap .i64 n49), .int .i64 (IntKind.wrap .i64 n52), .int .i64 (IntKind.wrap .i64 n55), .int .i64 r_040, .int .i64 (IntKind.wrap .i64 n58)]) fun h60 =>
                        br (decide (r_044 > (IntKind.wrap .i64 (((lenO b_1 : Nat) : Int) - 16)))) (
                          ob (AH.puts h60 i3 0 [.int .i64 0, .int .i64 0, .int .i64 0, .int .i64 0, .int .i64 0]) fun h61 =>
                            ob (AH.cellsAt h61 i3 0 5) fun cs62 =>
                            ints5 .i64 cs62 fun n63 n64 n65 n66 n67 =>
                            K n63 n64 n65 n66 n67 none 5 h61
                        ) (
                          new h60 (.cells [] false) fun i69 h68 =>
                          need ((0 : Int) ≤ IntKind.wrap .i64 (12 + r_044) ∧ IntKind.wrap .i64 (12 + r_044) ≤ ((lenO b_1 : Nat) : Int)) <|
                          need ((0 : Int) ≤ 12 ∧ 12 ≤ ((Int.toNat (IntKind.wrap .i64 (12 + r_044)) : Nat) : Int)) <|
                          guardR (cutOkO 1 b_1) <|
                          aNews h68 1 (.slice (cutO 1 (Int.toNat 12) (Int.toNat (IntKind.wrap .i64 (12 + r_044))) b_1)) fun x70 n71 =>
                          guardR (x70.all AV.scal && true && true) <|
                          aAppend h68 1 1 (some ⟨i69, 0, 0, 0, none⟩) x70 n71 fun s72 h73 =>
                            ob (AH.cellsAt h73 (h43.length + 0) 0 5) fun cs74 =>
                            ints5 .i64 cs74 fun n75 n76 n77 n78 n79 =>
                            depotref23_Image n75 n76 n77 n78 n79 s72 ((lenO b_1 : Nat) : Int) h73 fun r_082 r_183 h81 =>
                              br (r_183 != 0) (
                                ob (AH.puts h81 i3 0 [.int .i64 0, .int .i64 0, .int .i64 0, .int .i64 0, .int .i64 0]) fun h88 =>
                                  ob (AH.cellsAt h88 i3 0 5) fun cs89 =>
                                  ints5 .i64 cs89 fun n90 n91 n92 n93 n94 =>
                                  K n90 n91 n92 n93 n94 none 5 h88
                              ) (
                                aBytes h81 r_082 fun q84 y85 =>
                                aBytes h81 b_1 fun q86 y87 =>
                                  br (!(y85 == y87)) (
                                    ob (AH.puts h81 i3 0 [.int .i64 0, .int .i64 0, .int .i64 0, .int .i64 0, .int .i64 0]) fun h95 =>
                                      ob (AH.cellsAt h95 i3 0 5) fun cs96 =>
                                      ints5 .i64 cs96 fun n97 n98 n99 n100 n101 =>
                                      K n97 n98 n99 n100 n101 none 5 h95
                                  ) (
                                    ob (AH.cellsAt h81 (h43.length + 0) 0 5) fun cs102 =>
                                    ints5 .i64 cs102 fun n103 n104 n105 n106 n107 =>
                                    ob (AH.puts h81 i3 0 [.int .i64 n103, .int .i64 n104, .int .i64 n105, .int .i64 n106, .int .i64 n107]) fun h108 =>
                                      ob (AH.cellsAt h108 i3 0 5) fun cs109 =>
                                      ints5 .i64 cs109 fun n110 n111 n112 n113 n114 =>
                                      K n110 n111 n112 n113 n114 s72 0 h108
                                  )
                              )
                        )
                )
          )
      )
theorem depotref23_Parse.eq (b_1 : Option Sl) (h : AH) (K : Int → Int → Int → Int → Int → Option Sl → Int → AH → Prop) : fstep PR (ACall PR M) (ALoop PR M) M 62 [.slice b_1] h (fun v1 h2 =>
  asTup v1 fun l3 =>
  asCons l3 fun v4 l5 =>
  asAgg v4 fun l6 =>
  ints5 .i64 l6 fun n7 n8 n9 n10 n11 =>
  asCons l5 fun v12 l13 =>
  chkSl v12 fun x14 =>
  asCons l13 fun v15 l16 =>
  chkInt .i64 v15 fun n17 =>
  asNil l16 <|
  K n7 n8 n9 n10 n11 x14 n17 h2
  ) = depotref23_Parsew b_1 h K := by kernel_rfl
theorem depotref23_Parse.go {b_1 : Option Sl} {h : AH} {K : Int → Int → Int → Int → Int → Option Sl → Int → AH → Prop} (hh : depotref23_Parsew b_1 h K) : depotref23_Parse b_1 h K := step_call (depotref23_Parse.eq b_1 h K) hh

/-! depot/depotref25.is -/
noncomputable def c63 : Code := bodyOf PR.funcs[63]?
def depotref25_isw (pages_1 : Option Sl) (at_2 : Int) (h__03 : Int) (h__14 : Int) (h__25 : Int) (h__36 : Int) (h__47 : Int) (h : AH) (K : Option Sl → Bool → AH → Prop) : Prop :=
  new h (.cells [.int .i64 h__03, .int .i64 h__14, .int .i64 h__25, .int .i64 h__36, .int .i64 h__47] false) fun i9 h8 =>
    br (decide (at_2 ≥ ((lenO pages_1 : Nat) : Int))) (
        K none false h8
    ) (
      br (decide (at_2 ≥ 16)) (
        K none false h8
      ) (
        ob pages_1 fun s10 =>
        need ((0 : Int) ≤ at_2 ∧ at_2 < ((s10.len : Nat) : Int)) <|
        ob (AH.cell h8 s10.id (s10.off + Int.toNat at_2 * 1)) fun v11 =>
        chkSl v11 fun x12 =>
        depotref23_Parse x12 h8 fun r_0_015 r_0_116 r_0_217 r_0_318 r_0_419 r_120 r_221 h14 =>
        new h14 (.cells [.int .i64 0, .int .i64 0, .int .i64 0, .int .i64 0, .int .i64 0] false) fun i23 h22 =>
        ob (AH.puts h22 i23 0 [.int .i64 r_0_015, .int .i64 r_0_116, .int .i64 r_0_217, .int .i64 r_0_318, .int .i64 r_0_419]) fun h24 =>
          hold h24 0 fun h25 =>
          br (r_221 == 0) (
            ob (AH.cellsAt h25 i23 0 5) fun cs26 =>
            ints5 .i64 cs26 fun n27 n28 n29 n30 n31 =>
            ob (AH.cellsAt h25 i9 0 5) fun cs32 =>
            ints5 .i64 cs32 fun n33 n34 n35 n36 n37 =>
              K r_120 ((n27 == n33) && ((n28 == n34) && ((n29 == n35) && ((n30 == n36) && ((n31 == n37) && true))))) h25
          ) (
            K r_120 false h25
          )
      )
    )
theorem depotref25_is.eq (pages_1 : Option Sl) (at_2 : Int) (h__03 : Int) (h__14 : Int) (h__25 : Int) (h__36 : Int) (h__47 : Int) (h : AH) (K : Option Sl → Bool → AH → Prop) : fstep PR (ACall PR M) (ALoop PR M) M 63 [.slice pages_1, .int .i64 at_2, .agg [.int .i64 h__03, .int .i64 h__14, .int .i64 h__25, .int .i64 h__36, .int .i64 h__47]] h (fun v1 h2 =>
  asTup v1 fun l3 =>
  asCons l3 fun v4 l5 =>
  chkSl v4 fun x6 =>
  asCons l5 fun v7 l8 =>
  chkBool v7 fun b9 =>
  asNil l8 <|
  K x6 b9 h2
  ) = depotref25_isw pages_1 at_2 h__03 h__14 h__25 h__36 h__47 h K := by kernel_rfl
theorem depotref25_is.go {pages_1 : Option Sl} {at_2 : Int} {h__03 : Int} {h__14 : Int} {h__25 : Int} {h__36 : Int} {h__47 : Int} {h : AH} {K : Option Sl → Bool → AH → Prop} (hh : depotref25_isw pages_1 at_2 h__03 h__14 h__25 h__36 h__47 h K) : depotref25_is pages_1 at_2 h__03 h__14 h__25 h__36 h__47 h K := step_call (depotref25_is.eq pages_1 at_2 h__03 h__14 h__25 h__36 h__47 h K) hh

/-! depot/depotref23.Blank -/
noncomputable def c64 : Code := bodyOf PR.funcs[64]?
def depotref23_Blank_L0 (z2 : Option Sl) (z3 : Int) (h9 : AH) (Kr : AV → AH → Prop) (K0 : AV → AH → Prop) : Prop := ALoop PR M (M 64) (sub [true, false, true, false, false] c64) [.slice z2, .bot, .bot, .int .i64 z3, .bot, .bot, .bot, .bot, .bot, .bot, .bot, .bot, .bot, .bot, .bot] h9 fun e4 env5 h6 =>
  exCase e4 (
    Kr (env5.getD 2 .bot) h6
  ) fun i7 =>
  bif i7 == 0 then (
    K0 (env5.getD 2 .bot) h6
  ) else (
    False
  )
def depotref23_Blank_L0w (z2 : Option Sl) (z3 : Int) (h9 : AH) (Kr : AV → AH → Prop) (K0 : AV → AH → Prop) : Prop :=
  br (decide (z3 < ((lenO z2 : Nat) : Int))) (
    ob z2 fun s10 =>
    need ((0 : Int) ≤ z3 ∧ z3 < ((s10.len : Nat) : Int)) <|
    ob (AH.cell h9 s10.id (s10.off + Int.toNat z3 * 1)) fun v11 =>
    chkInt .u8 v11 fun n12 =>
      br (n12 != 255) (
        Kr (.bool false) h9
      ) (
        depotref23_Blank_L0 z2 (IntKind.wrap .i64 (z3 + 1)) h9 Kr K0
      )
  ) (
    K0 .bot h9
  )
theorem depotref23_Blank_L0.eq (z2 : Option Sl) (z3 : Int) (h9 : AH) (Kr : AV → AH → Prop) (K0 : AV → AH → Prop) : lstep PR (ACall PR M) (ALoop PR M) (M 64) (sub [true, false, true, false, false] c64) [.slice z2, .bot, .bot, .int .i64 z3, .bot, .bot, .bot, .bot, .bot, .bot, .bot, .bot, .bot, .bot, .bot] h9 (fun e4 env5 h6 =>
  exCase e4 (
    Kr (env5.getD 2 .bot) h6
  ) fun i7 =>
  bif i7 == 0 then (
    K0 (env5.getD 2 .bot) h6
  ) else (
    False
  )
  ) = depotref23_Blank_L0w z2 z3 h9 Kr K0 := by kernel_rfl
theorem depotref23_Blank_L0.go {z2 : Option Sl} {z3 : Int} {h9 : AH} {Kr : AV → AH → Prop} {K0 : AV → AH → Prop} (hh : depotref23_Blank_L0w z2 z3 h9 Kr K0) : depotref23_Blank_L0 z2 z3 h9 Kr K0 := step_loop' (depotref23_Blank_L0.eq z2 z3 h9 Kr K0) hh
def depotref23_Blankw (b_1 : Option Sl) (h : AH) (K : Bool → AH → Prop) : Prop :=
    depotref23_Blank_L0 b_1 0 h
      (fun u14 h13 =>
        chkBool u14 fun b15 =>
        K b15 h13
      )
      (fun u17 h16 =>
          K true h16
      )
theorem depotref23_Blank.eq (b_1 : Option Sl) (h : AH) (K : Bool → AH → Prop) : fstep PR (ACall PR M) (ALoop PR M) M 64 [.slice b_1] h (fun v1 h2 =>
  chkBool v1 fun b3 =>
  K b3 h2
  ) = depotref23_Blankw b_1 h K := by kernel_rfl
theorem depotref23_Blank.go {b_1 : Option Sl} {h : AH} {K : Bool → AH → Prop} (hh : depotref23_Blankw b_1 h K) : depotref23_Blank b_1 h K := step_call (depotref23_Blank.eq b_1 h K) hh

/-! depot/depotref25.sealed -/
noncomputable def c65 : Code := bodyOf PR.funcs[65]?
def depotref25_sealed_L0 (z3 : Option Sl) (z4 : Int) (z5 : Option Sl) (z6 : Int) (z7 : Int) (h20 : AH) (Kr : AV → AV → Option Sl → Int → AH → Prop) (K0 : AV → AV → Option Sl → Int → AH → Prop) : Prop := ALoop PR M (M 65) (sub [true, true, true, true, false, true, false, false] c65) [.slice z3, .int .i64 z4, .bot, .bot, .bot, .bot, .slice z5, .int .i64 z6, .int .i64 z7, .bot, .bot, .bot, .bot, .bot, .bot, .bot, .bot, .bot, .bot, .bot, .bot, .bot, .bot, .bot, .bot, .bot, .bot, .bot, .bot, .bot, .bot, .bot, .bot, .bot, .bot, .bot, .bot, .bot, .bot, .bot, .bot, .bot, .bot, .bot, .bot, .bot, .bot, .bot, .bot, .bot, .bot, .bot, .bot, .bot, .bot, .bot, .bot, .bot, .bot, .bot, .bot, .bot, .bot, .bot, .bot, .bot, .bot, .bot, .bot] h20 fun e8 env9 h10 =>
  exCase e8 (
    guardR (AV.beq (.int .i64 z4) (env9.getD 1 .bot)) <|
    chkSl (env9.getD 6 .bot) fun u12 =>
    chkInt .i64 (env9.getD 7 .bot) fun u13 =>
    Kr (env9.getD 4 .bot) (env9.getD 5 .bot) u12 u13 h10
  ) fun i11 =>
  bif i11 == 0 then (
    guardR (AV.beq (.int .i64 z4) (env9.getD 1 .bot)) <|
    chkSl (env9.getD 6 .bot) fun u14 =>
    chkInt .i64 (env9.getD 7 .bot) fun u15 =>
    K0 (env9.getD 4 .bot) (env9.getD 5 .bot) u14 u15 h10
  ) else (
    False
  )
def depotref25_sealed_L0w (z3 : Option Sl) (z4 : Int) (z5 : Option Sl) (z6 : Int) (z7 : Int) (h20 : AH) (Kr : AV → AV → Option Sl → Int → AH → Prop) (K0 : AV → AV → Option Sl → Int → AH → Prop) : Prop :=
  br (decide (z7 < ((lenO z3 : Nat) : Int))) (
    hold h20 1 fun h21 =>
    ob z3 fun s22 =>
    need ((0 : Int) ≤ z7 ∧ z7 < ((s22.len : Nat) : Int)) <|
    ob (AH.cell h21 s22.id (s22.off + Int.toNat z7 * 1)) fun v23 =>
    chkInt .u8 v23 fun n24 =>
    ob z3 fun s25 =>
    need ((0 : Int) ≤ IntKind.wrap .i64 (z7 + 1) ∧ IntKind.wrap .i64 (z7 + 1) < ((s25.len : Nat) : Int)) <|
    ob (AH.cell h21 s25.id (s25.off + Int.toNat (IntKind.wrap .i64 (z7 + 1)) * 1)) fun v26 =>
    chkInt .u8 v26 fun n27 =>
    ob z3 fun s28 =>
    need ((0 : Int) ≤ IntKind.wrap .i64 (z7 + 2) ∧ IntKind.wrap .i64 (z7 + 2) < ((s28.len : Nat) : Int)) <|
    ob (AH.cell h21 s28.id (s28.off + Int.toNat (IntKind.wrap .i64 (z7 + 2)) * 1)) fun v29 =>
    chkInt .u8 v29 fun n30 =>
    birth h21 (h20.length + 0) (.cells [.int .i64 0, .int .i64 0, .int .i64 0] false) fun h31 =>
    ob (AH.puts h31 (h20.length + 0) 0 [.int .i64 (IntKind.wrap .i64 n24), .int .i64 (IntKind.wrap .i64 n27), .int .i64 (IntKind.wrap .i64 n30)]) fun h32 =>
      ob (AH.cell h32 (h20.length + 0) 0) fun v33 =>
      chkInt .i64 v33 fun n34 =>
      br (n34 != 2) (
        ob (AH.cell h32 (h20.length + 0) 0) fun v35 =>
        chkInt .i64 v35 fun n36 =>
        br (n36 != 3) (
            guardR (AV.beq (.int .i64 z4) (.int .i64 z4)) <|
            Kr (.slice none) (.bool false) z5 z6 h32
        ) (
          ob (AH.cell h32 (h20.length + 0) 2) fun v37 =>
          chkInt .i64 v37 fun n38 =>
          br (decide (n38 < 1)) (
              guardR (AV.beq (.int .i64 z4) (.int .i64 z4)) <|
              Kr (.slice none) (.bool false) z5 z6 h32
          ) (
            ob (AH.cell h32 (h20.length + 0) 1) fun v39 =>
            chkInt .i64 v39 fun n40 =>
              br (n40 != z6) (
                guardR (AV.beq (.int .i64 z4) (.int .i64 z4)) <|
                Kr (.slice none) (.bool false) z5 z6 h32
              ) (
                ob (AH.cell h32 (h20.length + 0) 2) fun v45 =>
                chkInt .i64 v45 fun n46 =>
                  ob (AH.cellsAt h32 (h20.length + 0) 0 3) fun cs47 =>
                  ints3 .i64 cs47 fun n48 n49 n50 =>
                  new h32 (.cells [.int .i64 n48, .int .i64 n49, .int .i64 n50] false) fun i52 h51 =>
                  aNews h51 3 (.slice (some ⟨i52, 0, 1, 1, none⟩)) fun x53 n54 =>
                  guardR (x53.all AV.scal && true && true) <|
                  aAppend h51 3 24 z5 x53 n54 fun s55 h56 =>
                    depotref25_sealed_L0 z3 z4 s55 (IntKind.wrap .i64 (z6 + n46)) (IntKind.wrap .i64 (z7 + 3)) h56 Kr K0
              )
          )
        )
      ) (
        ob (AH.cell h32 (h20.length + 0) 2) fun v41 =>
        chkInt .i64 v41 fun n42 =>
        br (decide (n42 < 1)) (
            guardR (AV.beq (.int .i64 z4) (.int .i64 z4)) <|
            Kr (.slice none) (.bool false) z5 z6 h32
        ) (
          ob (AH.cell h32 (h20.length + 0) 1) fun v43 =>
          chkInt .i64 v43 fun n44 =>
            br (n44 != z6) (
              guardR (AV.beq (.int .i64 z4) (.int .i64 z4)) <|
              Kr (.slice none) (.bool false) z5 z6 h32
            ) (
              ob (AH.cell h32 (h20.length + 0) 2) fun v57 =>
              chkInt .i64 v57 fun n58 =>
                ob (AH.cellsAt h32 (h20.length + 0) 0 3) fun cs59 =>
                ints3 .i64 cs59 fun n60 n61 n62 =>
                new h32 (.cells [.int .i64 n60, .int .i64 n61, .int .i64 n62] false) fun i64 h63 =>
                aNews h63 3 (.slice (some ⟨i64, 0, 1, 1, none⟩)) fun x65 n66 =>
                guardR (x65.all AV.scal && true && true) <|
                aAppend h63 3 24 z5 x65 n66 fun s67 h68 =>
                  depotref25_sealed_L0 z3 z4 s67 (IntKind.wrap .i64 (z6 + n58)) (IntKind.wrap .i64 (z7 + 3)) h68 Kr K0
            )
        )
      )
  ) (
    guardR (AV.beq (.int .i64 z4) (.int .i64 z4)) <|
    K0 .bot .bot z5 z6 h20
  )
theorem depotref25_sealed_L0.eq (z3 : Option Sl) (z4 : Int) (z5 : Option Sl) (z6 : Int) (z7 : Int) (h20 : AH) (Kr : AV → AV → Option Sl → Int → AH → Prop) (K0 : AV → AV → Option Sl → Int → AH → Prop) : lstep PR (ACall PR M) (ALoop PR M) (M 65) (sub [true, true, true, true, false, true, false, false] c65) [.slice z3, .int .i64 z4, .bot, .bot, .bot, .bot, .slice z5, .int .i64 z6, .int .i64 z7, .bot, .bot, .bot, .bot, .bot, .bot, .bot, .bot, .bot, .bot, .bot, .bot, .bot, .bot, .bot, .bot, .bot, .bot, .bot, .bot, .bot, .bot, .bot, .bot, .bot, .bot, .bot, .bot, .bot, .bot, .bot, .bot, .bot, .bot, .bot, .bot, .bot, .bot, .bot, .bot, .bot, .bot, .bot, .bot, .bot, .bot, .bot, .bot, .bot, .bot, .bot, .bot, .bot, .bot, .bot, .bot, .bot, .bot, .bot, .bot] h20 (fun e8 env9 h10 =>
  exCase e8 (
    guardR (AV.beq (.int .i64 z4) (env9.getD 1 .bot)) <|
    chkSl (env9.getD 6 .bot) fun u12 =>
    chkInt .i64 (env9.getD 7 .bot) fun u13 =>
    Kr (env9.getD 4 .bot) (env9.getD 5 .bot) u12 u13 h10
  ) fun i11 =>
  bif i11 == 0 then (
    guardR (AV.beq (.int .i64 z4) (env9.getD 1 .bot)) <|
    chkSl (env9.getD 6 .bot) fun u14 =>
    chkInt .i64 (env9.getD 7 .bot) fun u15 =>
    K0 (env9.getD 4 .bot) (env9.getD 5 .bot) u14 u15 h10
  ) else (
    False
  )
  ) = depotref25_sealed_L0w z3 z4 z5 z6 z7 h20 Kr K0 := by kernel_rfl
theorem depotref25_sealed_L0.go {z3 : Option Sl} {z4 : Int} {z5 : Option Sl} {z6 : Int} {z7 : Int} {h20 : AH} {Kr : AV → AV → Option Sl → Int → AH → Prop} {K0 : AV → AV → Option Sl → Int → AH → Prop} (hh : depotref25_sealed_L0w z3 z4 z5 z6 z7 h20 Kr K0) : depotref25_sealed_L0 z3 z4 z5 z6 z7 h20 Kr K0 := step_loop' (depotref25_sealed_L0.eq z3 z4 z5 z6 z7 h20 Kr K0) hh
def depotref25_sealedw (p_1 : Option Sl) (at_2 : Int) (h : AH) (K : Option Sl → Bool → AH → Prop) : Prop :=
    br ((Int.tmod ((lenO p_1 : Nat) : Int) 3) != 0) (
      K none false h
    ) (
          depotref25_sealed_L0 p_1 at_2 none 1 0 h
            (fun u70 u71 u72 u73 h69 =>
              chkSl u70 fun x74 =>
              chkBool u71 fun b75 =>
              K x74 b75 h69
            )
            (fun u77 u78 u79 u80 h76 =>
                K u79 (u80 == at_2) h76
            )
    )
theorem depotref25_sealed.eq (p_1 : Option Sl) (at_2 : Int) (h : AH) (K : Option Sl → Bool → AH → Prop) : fstep PR (ACall PR M) (ALoop PR M) M 65 [.slice p_1, .int .i64 at_2] h (fun v1 h2 =>
  asTup v1 fun l3 =>
  asCons l3 fun v4 l5 =>
  chkSl v4 fun x6 =>
  asCons l5 fun v7 l8 =>
  chkBool v7 fun b9 =>
  asNil l8 <|
  K x6 b9 h2
  ) = depotref25_sealedw p_1 at_2 h K := by kernel_rfl
theorem depotref25_sealed.go {p_1 : Option Sl} {at_2 : Int} {h : AH} {K : Option Sl → Bool → AH → Prop} (hh : depotref25_sealedw p_1 at_2 h K) : depotref25_sealed p_1 at_2 h K := step_call (depotref25_sealed.eq p_1 at_2 h K) hh

/-! depot/depotref25.found -/
noncomputable def c66 : Code := bodyOf PR.funcs[66]?
def depotref25_found_L0 (z35 : Option Sl) (z36 : Int) (z37 : Int) (z38 : Option (Nat × Nat)) (z39 : Option (Nat × Nat)) (z40 : Int) (h46 : AH) (Kr : AV → AH → Prop) (K0 : AV → AH → Prop) : Prop := ALoop PR M (M 66) (sub [true, true, true, false, true, false, false] c66) [.slice z35, .int .i64 z36, .int .i64 z37, .bot, .bot, .bot, .ptr z38, .bot, .ptr z39, .bot, .bot, .int .i64 z40, .bot, .bot, .bot, .bot, .bot, .bot, .bot, .bot, .bot, .bot, .bot, .bot, .bot, .bot, .bot, .bot, .bot, .bot, .bot, .bot, .bot, .bot, .bot, .bot, .bot, .bot, .bot, .bot, .bot, .bot, .bot, .bot, .bot, .bot, .bot, .bot, .bot, .bot, .bot, .bot, .bot, .bot, .bot, .bot, .bot, .bot, .bot, .bot, .bot, .bot, .bot, .bot, .bot, .bot, .bot, .bot, .bot] h46 fun e41 env42 h43 =>
  exCase e41 (
    guardR (AV.beq (.int .i64 z36) (env42.getD 1 .bot)) <|
    guardR (AV.beq (.ptr z38) (env42.getD 6 .bot)) <|
    guardR (AV.beq (.ptr z39) (env42.getD 8 .bot)) <|
    Kr (env42.getD 7 .bot) h43
  ) fun i44 =>
  bif i44 == 0 then (
    guardR (AV.beq (.int .i64 z36) (env42.getD 1 .bot)) <|
    guardR (AV.beq (.ptr z38) (env42.getD 6 .bot)) <|
    guardR (AV.beq (.ptr z39) (env42.getD 8 .bot)) <|
    K0 (env42.getD 7 .bot) h43
  ) else (
    False
  )
def depotref25_found_L0w (z35 : Option Sl) (z36 : Int) (z37 : Int) (z38 : Option (Nat × Nat)) (z39 : Option (Nat × Nat)) (z40 : Int) (h46 : AH) (Kr : AV → AH → Prop) (K0 : AV → AH → Prop) : Prop :=
  ob z39 fun a47 =>
  ob (AH.cell h46 a47.1 (a47.2 + 2)) fun v48 =>
  chkInt .i64 v48 fun n49 =>
    br (decide (z40 < n49)) (
      ob z39 fun a50 =>
      ob (AH.cell h46 a50.1 a50.2) fun v51 =>
      chkInt .i64 v51 fun n52 =>
      ob z39 fun a53 =>
      ob (AH.cell h46 a53.1 (a53.2 + 2)) fun v54 =>
      chkInt .i64 v54 fun n55 =>
      depotref25_is z35 (IntKind.wrap .i64 (z36 + z40)) n52 z40 n55 z37 (IntKind.wrap .i64 (z36 + z40)) h46 fun r_058 r_159 h57 =>
        br (!r_159) (
          ob z38 fun a60 =>
          ob (AH.puts h57 a60.1 a60.2 [.int .i64 0, .int .i64 0, .int .i64 0]) fun h61 =>
            guardR (AV.beq (.int .i64 z36) (.int .i64 z36)) <|
            guardR (AV.beq (.ptr z38) (.ptr z38)) <|
            guardR (AV.beq (.ptr z39) (.ptr z39)) <|
            Kr (.bool false) h61
        ) (
          depotref25_found_L0 z35 z36 z37 z38 z39 (IntKind.wrap .i64 (z40 + 1)) h57 Kr K0
        )
    ) (
      guardR (AV.beq (.int .i64 z36) (.int .i64 z36)) <|
      guardR (AV.beq (.ptr z38) (.ptr z38)) <|
      guardR (AV.beq (.ptr z39) (.ptr z39)) <|
      K0 .bot h46
    )
theorem depotref25_found_L0.eq (z35 : Option Sl) (z36 : Int) (z37 : Int) (z38 : Option (Nat × Nat)) (z39 : Option (Nat × Nat)) (z40 : Int) (h46 : AH) (Kr : AV → AH → Prop) (K0 : AV → AH → Prop) : lstep PR (ACall PR M) (ALoop PR M) (M 66) (sub [true, true, true, false, true, false, false] c66) [.slice z35, .int .i64 z36, .int .i64 z37, .bot, .bot, .bot, .ptr z38, .bot, .ptr z39, .bot, .bot, .int .i64 z40, .bot, .bot, .bot, .bot, .bot, .bot, .bot, .bot, .bot, .bot, .bot, .bot, .bot, .bot, .bot, .bot, .bot, .bot, .bot, .bot, .bot, .bot, .bot, .bot, .bot, .bot, .bot, .bot, .bot, .bot, .bot, .bot, .bot, .bot, .bot, .bot, .bot, .bot, .bot, .bot, .bot, .bot, .bot, .bot, .bot, .bot, .bot, .bot, .bot, .bot, .bot, .bot, .bot, .bot, .bot, .bot, .bot] h46 (fun e41 env42 h43 =>
  exCase e41 (
    guardR (AV.beq (.int .i64 z36) (env42.getD 1 .bot)) <|
    guardR (AV.beq (.ptr z38) (env42.getD 6 .bot)) <|
    guardR (AV.beq (.ptr z39) (env42.getD 8 .bot)) <|
    Kr (env42.getD 7 .bot) h43
  ) fun i44 =>
  bif i44 == 0 then (
    guardR (AV.beq (.int .i64 z36) (env42.getD 1 .bot)) <|
    guardR (AV.beq (.ptr z38) (env42.getD 6 .bot)) <|
    guardR (AV.beq (.ptr z39) (env42.getD 8 .bot)) <|
    K0 (env42.getD 7 .bot) h43
  ) else (
    False
  )
  ) = depotref25_found_L0w z35 z36 z37 z38 z39 z40 h46 Kr K0 := by kernel_rfl
theorem depotref25_found_L0.go {z35 : Option Sl} {z36 : Int} {z37 : Int} {z38 : Option (Nat × Nat)} {z39 : Option (Nat × Nat)} {z40 : Int} {h46 : AH} {Kr : AV → AH → Prop} {K0 : AV → AH → Prop} (hh : depotref25_found_L0w z35 z36 z37 z38 z39 z40 h46 Kr K0) : depotref25_found_L0 z35 z36 z37 z38 z39 z40 h46 Kr K0 := step_loop' (depotref25_found_L0.eq z35 z36 z37 z38 z39 z40 h46 Kr K0) hh
def depotref25_foundw (pages_1 : Option Sl) (at_2 : Int) (epoch_3 : Int) (h : AH) (K : Int → Int → Int → Bool → AH → Prop) : Prop :=
  new h (.cells [.int .i64 0, .int .i64 0, .int .i64 0] false) fun i5 h4 =>
    ob pages_1 fun s6 =>
    need ((0 : Int) ≤ at_2 ∧ at_2 < ((s6.len : Nat) : Int)) <|
    ob (AH.cell h4 s6.id (s6.off + Int.toNat at_2 * 1)) fun v7 =>
    chkSl v7 fun x8 =>
    depotref23_Parse x8 h4 fun r_0_011 r_0_112 r_0_213 r_0_314 r_0_415 r_116 r_217 h10 =>
    new h10 (.cells [.int .i64 0, .int .i64 0, .int .i64 0, .int .i64 0, .int .i64 0] false) fun i19 h18 =>
    ob (AH.puts h18 i19 0 [.int .i64 r_0_011, .int .i64 r_0_112, .int .i64 r_0_213, .int .i64 r_0_314, .int .i64 r_0_415]) fun h20 =>
      br (r_217 != 0) (
        ob (AH.puts h20 i5 0 [.int .i64 0, .int .i64 0, .int .i64 0]) fun h25 =>
          ob (AH.cellsAt h25 i5 0 3) fun cs26 =>
          ints3 .i64 cs26 fun n27 n28 n29 =>
          K n27 n28 n29 false h25
      ) (
        ob (AH.cell h20 i19 0) fun v21 =>
        chkInt .i64 v21 fun n22 =>
        br (n22 != 2) (
          ob (AH.cell h20 i19 0) fun v23 =>
          chkInt .i64 v23 fun n24 =>
            br (n24 != 3) (
              ob (AH.puts h20 i5 0 [.int .i64 0, .int .i64 0, .int .i64 0]) fun h30 =>
                ob (AH.cellsAt h30 i5 0 3) fun cs31 =>
                ints3 .i64 cs31 fun n32 n33 n34 =>
                K n32 n33 n34 false h30
            ) (
                depotref25_found_L0 pages_1 at_2 epoch_3 (some (i5, 0)) (some (i19, 0)) 0 h20
                  (fun u63 h62 =>
                    ob (AH.cellsAt h62 i5 0 3) fun cs64 =>
                    ints3 .i64 cs64 fun n65 n66 n67 =>
                    chkBool u63 fun b68 =>
                    K n65 n66 n67 b68 h62
                  )
                  (fun u70 h69 =>
                    ob (AH.cell h69 i19 0) fun v71 =>
                    chkInt .i64 v71 fun n72 =>
                    ob (AH.cell h69 i19 2) fun v73 =>
                    chkInt .i64 v73 fun n74 =>
                    ob (AH.puts h69 i5 0 [.int .i64 n72, .int .i64 at_2, .int .i64 n74]) fun h75 =>
                      ob (AH.cellsAt h75 i5 0 3) fun cs76 =>
                      ints3 .i64 cs76 fun n77 n78 n79 =>
                      K n77 n78 n79 true h75
                  )
            )
        ) (
            depotref25_found_L0 pages_1 at_2 epoch_3 (some (i5, 0)) (some (i19, 0)) 0 h20
              (fun u81 h80 =>
                ob (AH.cellsAt h80 i5 0 3) fun cs82 =>
                ints3 .i64 cs82 fun n83 n84 n85 =>
                chkBool u81 fun b86 =>
                K n83 n84 n85 b86 h80
              )
              (fun u88 h87 =>
                ob (AH.cell h87 i19 0) fun v89 =>
                chkInt .i64 v89 fun n90 =>
                ob (AH.cell h87 i19 2) fun v91 =>
                chkInt .i64 v91 fun n92 =>
                ob (AH.puts h87 i5 0 [.int .i64 n90, .int .i64 at_2, .int .i64 n92]) fun h93 =>
                  ob (AH.cellsAt h93 i5 0 3) fun cs94 =>
                  ints3 .i64 cs94 fun n95 n96 n97 =>
                  K n95 n96 n97 true h93
              )
        )
      )
theorem depotref25_found.eq (pages_1 : Option Sl) (at_2 : Int) (epoch_3 : Int) (h : AH) (K : Int → Int → Int → Bool → AH → Prop) : fstep PR (ACall PR M) (ALoop PR M) M 66 [.slice pages_1, .int .i64 at_2, .int .i64 epoch_3] h (fun v1 h2 =>
  asTup v1 fun l3 =>
  asCons l3 fun v4 l5 =>
  asAgg v4 fun l6 =>
  ints3 .i64 l6 fun n7 n8 n9 =>
  asCons l5 fun v10 l11 =>
  chkBool v10 fun b12 =>
  asNil l11 <|
  K n7 n8 n9 b12 h2
  ) = depotref25_foundw pages_1 at_2 epoch_3 h K := by kernel_rfl
theorem depotref25_found.go {pages_1 : Option Sl} {at_2 : Int} {epoch_3 : Int} {h : AH} {K : Int → Int → Int → Bool → AH → Prop} (hh : depotref25_foundw pages_1 at_2 epoch_3 h K) : depotref25_found pages_1 at_2 epoch_3 h K := step_call (depotref25_found.eq pages_1 at_2 epoch_3 h K) hh

/-! depot/page.Parse -/
noncomputable def c67 : Code := bodyOf PR.funcs[67]?
def page_Parse_L0 (z105 : Option Sl) (z106 : Option (Nat × Nat)) (z107 : Option (Nat × Nat)) (z108 : Int) (z109 : Option Sl) (z110 : Int) (z111 : Int) (h118 : AH) (Kr : AV → AV → AH → Prop) (K1 : AV → AV → AH → Prop) : Prop := ALoop PR M (M 67) (sub [true, true, true, true, true, true, true, true, false, true, false, false] c67) [.slice z105, .bot, .ptr z106, .bot, .bot, .bot, .ptr z107, .bot, .int .i64 z108, .bot, .bot, .bot, .bot, .bot, .bot, .bot, .bot, .bot, .bot, .bot, .bot, .bot, .bot, .bot, .bot, .bot, .bot, .bot, .bot, .bot, .bot, .bot, .bot, .bot, .bot, .bot, .bot, .bot, .bot, .bot, .bot, .bot, .bot, .bot, .bot, .bot, .bot, .bot, .bot, .bot, .bot, .bot, .bot, .bot, .bot, .bot, .bot, .bot, .bot, .bot, .bot, .bot, .bot, .bot, .bot, .bot, .bot, .bot, .bot, .bot, .bot, .bot, .bot, .bot, .bot, .bot, .bot, .bot, .bot, .bot, .bot, .bot, .slice z109, .int .i64 z110, .int .i64 z111, .bot, .bot, .bot, .bot, .bot, .bot, .bot, .bot, .bot, .bot, .bot, .bot, .bot] h118 fun e112 env113 h114 =>
  exCase e112 (
    guardR (AV.beq (.slice z105) (env113.getD 0 .bot)) <|
    guardR (AV.beq (.ptr z106) (env113.getD 2 .bot)) <|
    guardR (AV.beq (.ptr z107) (env113.getD 6 .bot)) <|
    guardR (AV.beq (.int .i64 z108) (env113.getD 8 .bot)) <|
    Kr (env113.getD 3 .bot) (env113.getD 4 .bot) h114
  ) fun i115 =>
  bif i115 == 1 then (
    guardR (AV.beq (.slice z105) (env113.getD 0 .bot)) <|
    guardR (AV.beq (.ptr z106) (env113.getD 2 .bot)) <|
    guardR (AV.beq (.ptr z107) (env113.getD 6 .bot)) <|
    guardR (AV.beq (.int .i64 z108) (env113.getD 8 .bot)) <|
    K1 (env113.getD 3 .bot) (env113.getD 4 .bot) h114
  ) else (
    False
  )
def page_Parse_L0w (z105 : Option Sl) (z106 : Option (Nat × Nat)) (z107 : Option (Nat × Nat)) (z108 : Int) (z109 : Option Sl) (z110 : Int) (z111 : Int) (h118 : AH) (Kr : AV → AV → AH → Prop) (K1 : AV → AV → AH → Prop) : Prop :=
  br (decide (z111 < z110)) (
    ob z109 fun s119 =>
    need ((0 : Int) ≤ z111 ∧ z111 < ((s119.len : Nat) : Int)) <|
    ob (AH.cell h118 s119.id (s119.off + Int.toNat z111 * 1)) fun v120 =>
    chkInt .u8 v120 fun n121 =>
      br (n121 != 0) (
        ob z106 fun a122 =>
        ob (AH.puts h118 a122.1 a122.2 [.int .i64 0, .int .i64 0, .int .i64 0, .int .i64 0, .int .i64 0]) fun h123 =>
          guardR (AV.beq (.slice z105) (.slice z105)) <|
          guardR (AV.beq (.ptr z106) (.ptr z106)) <|
          guardR (AV.beq (.ptr z107) (.ptr z107)) <|
          guardR (AV.beq (.int .i64 z108) (.int .i64 z108)) <|
          Kr (.slice none) (.int .i64 5) h123
      ) (
        page_Parse_L0 z105 z106 z107 z108 z109 z110 (IntKind.wrap .i64 (z111 + 1)) h118 Kr K1
      )
  ) (
    guardR (AV.beq (.slice z105) (.slice z105)) <|
    guardR (AV.beq (.ptr z106) (.ptr z106)) <|
    guardR (AV.beq (.ptr z107) (.ptr z107)) <|
    guardR (AV.beq (.int .i64 z108) (.int .i64 z108)) <|
    K1 .bot .bot h118
  )
theorem page_Parse_L0.eq (z105 : Option Sl) (z106 : Option (Nat × Nat)) (z107 : Option (Nat × Nat)) (z108 : Int) (z109 : Option Sl) (z110 : Int) (z111 : Int) (h118 : AH) (Kr : AV → AV → AH → Prop) (K1 : AV → AV → AH → Prop) : lstep PR (ACall PR M) (ALoop PR M) (M 67) (sub [true, true, true, true, true, true, true, true, false, true, false, false] c67) [.slice z105, .bot, .ptr z106, .bot, .bot, .bot, .ptr z107, .bot, .int .i64 z108, .bot, .bot, .bot, .bot, .bot, .bot, .bot, .bot, .bot, .bot, .bot, .bot, .bot, .bot, .bot, .bot, .bot, .bot, .bot, .bot, .bot, .bot, .bot, .bot, .bot, .bot, .bot, .bot, .bot, .bot, .bot, .bot, .bot, .bot, .bot, .bot, .bot, .bot, .bot, .bot, .bot, .bot, .bot, .bot, .bot, .bot, .bot, .bot, .bot, .bot, .bot, .bot, .bot, .bot, .bot, .bot, .bot, .bot, .bot, .bot, .bot, .bot, .bot, .bot, .bot, .bot, .bot, .bot, .bot, .bot, .bot, .bot, .bot, .slice z109, .int .i64 z110, .int .i64 z111, .bot, .bot, .bot, .bot, .bot, .bot, .bot, .bot, .bot, .bot, .bot, .bot, .bot] h118 (fun e112 env113 h114 =>
  exCase e112 (
    guardR (AV.beq (.slice z105) (env113.getD 0 .bot)) <|
    guardR (AV.beq (.ptr z106) (env113.getD 2 .bot)) <|
    guardR (AV.beq (.ptr z107) (env113.getD 6 .bot)) <|
    guardR (AV.beq (.int .i64 z108) (env113.getD 8 .bot)) <|
    Kr (env113.getD 3 .bot) (env113.getD 4 .bot) h114
  ) fun i115 =>
  bif i115 == 1 then (
    guardR (AV.beq (.slice z105) (env113.getD 0 .bot)) <|
    guardR (AV.beq (.ptr z106) (env113.getD 2 .bot)) <|
    guardR (AV.beq (.ptr z107) (env113.getD 6 .bot)) <|
    guardR (AV.beq (.int .i64 z108) (env113.getD 8 .bot)) <|
    K1 (env113.getD 3 .bot) (env113.getD 4 .bot) h114
  ) else (
    False
  )
  ) = page_Parse_L0w z105 z106 z107 z108 z109 z110 z111 h118 Kr K1 := by kernel_rfl
theorem page_Parse_L0.go {z105 : Option Sl} {z106 : Option (Nat × Nat)} {z107 : Option (Nat × Nat)} {z108 : Int} {z109 : Option Sl} {z110 : Int} {z111 : Int} {h118 : AH} {Kr : AV → AV → AH → Prop} {K1 : AV → AV → AH → Prop} (hh : page_Parse_L0w z105 z106 z107 z108 z109 z110 z111 h118 Kr K1) : page_Parse_L0 z105 z106 z107 z108 z109 z110 z111 h118 Kr K1 := step_loop' (page_Parse_L0.eq z105 z106 z107 z108 z109 z110 z111 h118 Kr K1) hh
def page_Parsew (b_1 : Option Sl) (h : AH) (K : Int → Int → Int → Int → Int → Option Sl → Int → AH → Prop) : Prop :=
  new h (.cells [.int .i64 0, .int .i64 0, .int .i64 0, .int .i64 0, .int .i64 0] false) fun i3 h2 =>
    page_sized ((lenO b_1 : Nat) : Int) h2 fun r6 h5 =>
      br (!r6) (
        ob (AH.puts h5 i3 0 [.int .i64 0, .int .i64 0, .int .i64 0, .int .i64 0, .int .i64 0]) fun h7 =>
          ob (AH.cellsAt h7 i3 0 5) fun cs8 =>
          ints5 .i64 cs8 fun n9 n10 n11 n12 n13 =>
          K n9 n10 n11 n12 n13 none 2 h7
      ) (
        page_Blank b_1 h5 fun r16 h15 =>
          br r16 (
            ob (AH.puts h15 i3 0 [.int .i64 0, .int .i64 0, .int .i64 0, .int .i64 0, .int .i64 0]) fun h17 =>
              ob (AH.cellsAt h17 i3 0 5) fun cs18 =>
              ints5 .i64 cs18 fun n19 n20 n21 n22 n23 =>
              K n19 n20 n21 n22 n23 none 15 h17
          ) (
              hold h15 0 fun h24 =>
              need ((0 : Int) ≤ IntKind.wrap .i64 (((lenO b_1 : Nat) : Int) - 4) ∧ IntKind.wrap .i64 (((lenO b_1 : Nat) : Int) - 4) ≤ ((lenO b_1 : Nat) : Int)) <|
              guardR (cutOkO 1 b_1) <|
              page_at b_1 (IntKind.wrap .i64 (((lenO b_1 : Nat) : Int) - 4)) 4 h24 fun r27 h26 =>
              crc_Check (cutO 1 0 (Int.toNat (IntKind.wrap .i64 (((lenO b_1 : Nat) : Int) - 4))) b_1) r27 h26 fun r30 h29 =>
                br (!r30) (
                  ob (AH.puts h29 i3 0 [.int .i64 0, .int .i64 0, .int .i64 0, .int .i64 0, .int .i64 0]) fun h31 =>
                    ob (AH.cellsAt h31 i3 0 5) fun cs32 =>
                    ints5 .i64 cs32 fun n33 n34 n35 n36 n37 =>
                    K n33 n34 n35 n36 n37 none 12 h31
                ) (
                  hold h29 1 fun h38 =>
                  ob b_1 fun s39 =>
                  need ((0 : Int) ≤ 0 ∧ 0 < ((s39.len : Nat) : Int)) <|
                  ob (AH.cell h38 s39.id (s39.off + Int.toNat 0 * 1)) fun v40 =>
                  chkInt .u8 v40 fun n41 =>
                  ob b_1 fun s42 =>
                  need ((0 : Int) ≤ 1 ∧ 1 < ((s42.len : Nat) : Int)) <|
                  ob (AH.cell h38 s42.id (s42.off + Int.toNat 1 * 1)) fun v43 =>
                  chkInt .u8 v43 fun n44 =>
                  ob b_1 fun s45 =>
                  need ((0 : Int) ≤ 2 ∧ 2 < ((s45.len : Nat) : Int)) <|
                  ob (AH.cell h38 s45.id (s45.off + Int.toNat 2 * 1)) fun v46 =>
                  chkInt .u8 v46 fun n47 =>
                  ob b_1 fun s48 =>
                  need ((0 : Int) ≤ 8 ∧ 8 < ((s48.len : Nat) : Int)) <|
                  ob (AH.cell h38 s48.id (s48.off + Int.toNat 8 * 1)) fun v49 =>
                  chkInt .u8 v49 fun n50 =>
                  page_at b_1 4 4 h38 fun r53 h52 =>
                  guardR (Req.ok h52 (.cells s48.id (s48.off + Int.toNat 8 * 1) 1 [.int .u8 n50]) && (Req.ok h52 (.cells s45.id (s45.off + Int.toNat 2 * 1) 1 [.int .u8 n47]) && (Req.ok h52 (.cells s42.id (s42.off + Int.toNat 1 * 1) 1 [.int .u8 n44]) && (Req.ok h52 (.cells s39.id (s39.off + Int.toNat 0 * 1) 1 [.int .u8 n41]) && true)))) <|
                  birth h52 (h29.length + 0) (.cells [.int .i64 0, .int .i64 0, .int .i64 0, .int .i64 0, .int .i64 0] false) fun h54 =>
                  ob (AH.puts h54 (h29.length + 0) 0 [.int .i64 (IntKind.wrap .i64 n41), .int .i64 (IntKind.wrap .i64 n44), .int .i64 (IntKind.wrap .i64 n47), .int .i64 r53, .int .i64 (IntKind.wrap .i64 n50)]) fun h55 =>
                    page_at b_1 10 2 h55 fun r58 h57 =>
                      ob b_1 fun s59 =>
                      need ((0 : Int) ≤ 3 ∧ 3 < ((s59.len : Nat) : Int)) <|
                      ob (AH.cell h57 s59.id (s59.off + Int.toNat 3 * 1)) fun v60 =>
                      chkInt .u8 v60 fun n61 =>
                      br (n61 != 165) (
                        ob (AH.puts h57 i3 0 [.int .i64 0, .int .i64 0, .int .i64 0, .int .i64 0, .int .i64 0]) fun h77 =>
                          ob (AH.cellsAt h77 i3 0 5) fun cs78 =>
                          ints5 .i64 cs78 fun n79 n80 n81 n82 n83 =>
                          K n79 n80 n81 n82 n83 none 5 h77
                      ) (
                        ob b_1 fun s62 =>
                        need ((0 : Int) ≤ 9 ∧ 9 < ((s62.len : Nat) : Int)) <|
                        ob (AH.cell h57 s62.id (s62.off + Int.toNat 9 * 1)) fun v63 =>
                        chkInt .u8 v63 fun n64 =>
                        br (n64 != 0) (
                          ob (AH.puts h57 i3 0 [.int .i64 0, .int .i64 0, .int .i64 0, .int .i64 0, .int .i64 0]) fun h84 =>
                            ob (AH.cellsAt h84 i3 0 5) fun cs85 =>
                            ints5 .i64 cs85 fun n86 n87 n88 n89 n90 =>
                            K n86 n87 n88 n89 n90 none 5 h84
                        ) (
                          page_Room ((lenO b_1 : Nat) : Int) h57 fun r67 h66 =>
                          br (decide (r58 > r67)) (
                            ob (AH.puts h66 i3 0 [.int .i64 0, .int .i64 0, .int .i64 0, .int .i64 0, .int .i64 0]) fun h91 =>
                              ob (AH.cellsAt h91 i3 0 5) fun cs92 =>
                              ints5 .i64 cs92 fun n93 n94 n95 n96 n97 =>
                              K n93 n94 n95 n96 n97 none 5 h91
                          ) (
                            ob (AH.cellsAt h66 (h29.length + 0) 0 5) fun cs68 =>
                            ints5 .i64 cs68 fun n69 n70 n71 n72 n73 =>
                            page_check n69 n70 n71 n72 n73 h66 fun r76 h75 =>
                              br (r76 != 0) (
                                ob (AH.puts h75 i3 0 [.int .i64 0, .int .i64 0, .int .i64 0, .int .i64 0, .int .i64 0]) fun h98 =>
                                  ob (AH.cellsAt h98 i3 0 5) fun cs99 =>
                                  ints5 .i64 cs99 fun n100 n101 n102 n103 n104 =>
                                  K n100 n101 n102 n103 n104 none 5 h98
                              ) (
                                  need ((0 : Int) ≤ IntKind.wrap .i64 (((lenO b_1 : Nat) : Int) - 4) ∧ IntKind.wrap .i64 (((lenO b_1 : Nat) : Int) - 4) ≤ ((lenO b_1 : Nat) : Int)) <|
                                  need ((0 : Int) ≤ IntKind.wrap .i64 (12 + r58) ∧ IntKind.wrap .i64 (12 + r58) ≤ ((Int.toNat (IntKind.wrap .i64 (((lenO b_1 : Nat) : Int) - 4)) : Nat) : Int)) <|
                                  guardR (cutOkO 1 b_1) <|
                                    page_Parse_L0 b_1 (some (i3, 0)) (some ((h29.length + 0), 0)) (IntKind.wrap .i64 (12 + r58)) (cutO 1 (Int.toNat (IntKind.wrap .i64 (12 + r58))) (Int.toNat (IntKind.wrap .i64 (((lenO b_1 : Nat) : Int) - 4))) b_1) ((lenO (cutO 1 (Int.toNat (IntKind.wrap .i64 (12 + r58))) (Int.toNat (IntKind.wrap .i64 (((lenO b_1 : Nat) : Int) - 4))) b_1) : Nat) : Int) 0 h75
                                      (fun u125 u126 h124 =>
                                        ob (AH.cellsAt h124 i3 0 5) fun cs127 =>
                                        ints5 .i64 cs127 fun n128 n129 n130 n131 n132 =>
                                        chkSl u125 fun x133 =>
                                        chkInt .i64 u126 fun n134 =>
                                        K n128 n129 n130 n131 n132 x133 n134 h124
                                      )
                                      (fun u136 u137 h135 =>
                                        hold h135 1 fun h138 =>
                                        ob (AH.cellsAt h138 (h29.length + 0) 0 5) fun cs139 =>
                                        ints5 .i64 cs139 fun n140 n141 n142 n143 n144 =>
                                        need ((0 : Int) ≤ IntKind.wrap .i64 (12 + r58) ∧ IntKind.wrap .i64 (12 + r58) ≤ ((lenO b_1 : Nat) : Int)) <|
                                        need ((0 : Int) ≤ 12 ∧ 12 ≤ ((Int.toNat (IntKind.wrap .i64 (12 + r58)) : Nat) : Int)) <|
                                        guardR (cutOkO 1 b_1) <|
                                        birth h138 (h135.length + 0) (.cells [] false) fun h145 =>
                                        aNews h145 1 (.slice (cutO 1 (Int.toNat 12) (Int.toNat (IntKind.wrap .i64 (12 + r58))) b_1)) fun x146 n147 =>
                                        guardR (x146.all AV.scal && true && true) <|
                                        aAppend h145 1 1 (some ⟨(h135.length + 0), 0, 0, 0, none⟩) x146 n147 fun s148 h149 =>
                                        guardR (Req.ok h149 (.cells (h29.length + 0) 0 5 [.int .i64 n140, .int .i64 n141, .int .i64 n142, .int .i64 n143, .int .i64 n144]) && true) <|
                                        ob (AH.puts h149 i3 0 [.int .i64 n140, .int .i64 n141, .int .i64 n142, .int .i64 n143, .int .i64 n144]) fun h150 =>
                                          ob (AH.cellsAt h150 i3 0 5) fun cs151 =>
                                          ints5 .i64 cs151 fun n152 n153 n154 n155 n156 =>
                                          K n152 n153 n154 n155 n156 s148 0 h150
                                      )
                              )
                          )
                        )
                      )
                )
          )
      )
theorem page_Parse.eq (b_1 : Option Sl) (h : AH) (K : Int → Int → Int → Int → Int → Option Sl → Int → AH → Prop) : fstep PR (ACall PR M) (ALoop PR M) M 67 [.slice b_1] h (fun v1 h2 =>
  asTup v1 fun l3 =>
  asCons l3 fun v4 l5 =>
  asAgg v4 fun l6 =>
  ints5 .i64 l6 fun n7 n8 n9 n10 n11 =>
  asCons l5 fun v12 l13 =>
  chkSl v12 fun x14 =>
  asCons l13 fun v15 l16 =>
  chkInt .i64 v15 fun n17 =>
  asNil l16 <|
  K n7 n8 n9 n10 n11 x14 n17 h2
  ) = page_Parsew b_1 h K := by kernel_rfl
theorem page_Parse.go {b_1 : Option Sl} {h : AH} {K : Int → Int → Int → Int → Int → Option Sl → Int → AH → Prop} (hh : page_Parsew b_1 h K) : page_Parse b_1 h K := step_call (page_Parse.eq b_1 h K) hh

/-! depot/region.right -/
noncomputable def c68 : Code := bodyOf PR.funcs[68]?
def region_rightw (x__01 : Int) (x__12 : Int) (x__23 : Int) (h : AH) (K : Bool → AH → Prop) : Prop :=
  new h (.cells [.int .i64 x__01, .int .i64 x__12, .int .i64 x__23] false) fun i5 h4 =>
    ob (AH.cell h4 i5 0) fun v6 =>
    chkInt .i64 v6 fun n7 =>
    br (decide (n7 ≥ 0)) (
      ob (AH.cell h4 i5 0) fun v8 =>
      chkInt .i64 v8 fun n9 =>
      br (decide (n9 < 16)) (
        ob (AH.cell h4 i5 1) fun v10 =>
        chkInt .i64 v10 fun n11 =>
        br (decide (n11 ≥ 0)) (
          ob (AH.cell h4 i5 1) fun v12 =>
          chkInt .i64 v12 fun n13 =>
            br (decide (n13 < 16)) (
              ob (AH.cell h4 i5 2) fun v14 =>
              chkInt .i64 v14 fun n15 =>
              br (decide (n15 ≥ 1)) (
                ob (AH.cell h4 i5 2) fun v16 =>
                chkInt .i64 v16 fun n17 =>
                  K (decide (n17 ≤ 1073741824)) h4
              ) (
                K false h4
              )
            ) (
              K false h4
            )
        ) (
            K false h4
        )
      ) (
          K false h4
      )
    ) (
        K false h4
    )
theorem region_right.eq (x__01 : Int) (x__12 : Int) (x__23 : Int) (h : AH) (K : Bool → AH → Prop) : fstep PR (ACall PR M) (ALoop PR M) M 68 [.agg [.int .i64 x__01, .int .i64 x__12, .int .i64 x__23]] h (fun v1 h2 =>
  chkBool v1 fun b3 =>
  K b3 h2
  ) = region_rightw x__01 x__12 x__23 h K := by kernel_rfl
theorem region_right.go {x__01 : Int} {x__12 : Int} {x__23 : Int} {h : AH} {K : Bool → AH → Prop} (hh : region_rightw x__01 x__12 x__23 h K) : region_right x__01 x__12 x__23 h K := step_call (region_right.eq x__01 x__12 x__23 h K) hh

/-! depot/region.bytes -/
noncomputable def c69 : Code := bodyOf PR.funcs[69]?
def region_bytes_L0 (z3 : Option Sl) (z4 : Option Sl) (z5 : Int) (z6 : Int) (h16 : AH) (Kr : Option Sl → AV → AV → AH → Prop) (K0 : Option Sl → AV → AV → AH → Prop) : Prop := ALoop PR M (M 69) (sub [true, false, true, false, false] c69) [.slice z3, .bot, .bot, .bot, .bot, .bot, .bot, .bot, .slice z4, .int .i64 z5, .int .i64 z6, .bot, .bot, .bot, .bot, .bot, .bot, .bot, .bot, .bot, .bot, .bot, .bot, .bot, .bot, .bot, .bot] h16 fun e7 env8 h9 =>
  exCase e7 (
    chkSl (env8.getD 0 .bot) fun u11 =>
    Kr u11 (env8.getD 4 .bot) (env8.getD 5 .bot) h9
  ) fun i10 =>
  bif i10 == 0 then (
    chkSl (env8.getD 0 .bot) fun u12 =>
    K0 u12 (env8.getD 4 .bot) (env8.getD 5 .bot) h9
  ) else (
    False
  )
def region_bytes_L0w (z3 : Option Sl) (z4 : Option Sl) (z5 : Int) (z6 : Int) (h16 : AH) (Kr : Option Sl → AV → AV → AH → Prop) (K0 : Option Sl → AV → AV → AH → Prop) : Prop :=
  br (decide (z6 < z5)) (
    ob z4 fun s17 =>
    need ((0 : Int) ≤ z6 ∧ z6 < ((s17.len : Nat) : Int)) <|
    ob (AH.cell h16 s17.id (s17.off + Int.toNat z6 * 1)) fun v18 =>
    chkInt .i64 v18 fun n19 =>
      br (decide (n19 < 0)) (
          Kr z3 (.slice none) (.bool false) h16
      ) (
        br (decide (n19 > 255)) (
          Kr z3 (.slice none) (.bool false) h16
        ) (
          new h16 (.cells [.int .u8 (IntKind.wrap .u8 n19)] false) fun i21 h20 =>
          aNews h20 1 (.slice (some ⟨i21, 0, 1, 1, none⟩)) fun x22 n23 =>
          guardR (x22.all AV.scal && true && true) <|
          aAppend h20 1 1 z3 x22 n23 fun s24 h25 =>
            region_bytes_L0 s24 z4 z5 (IntKind.wrap .i64 (z6 + 1)) h25 Kr K0
        )
      )
  ) (
    K0 z3 .bot .bot h16
  )
theorem region_bytes_L0.eq (z3 : Option Sl) (z4 : Option Sl) (z5 : Int) (z6 : Int) (h16 : AH) (Kr : Option Sl → AV → AV → AH → Prop) (K0 : Option Sl → AV → AV → AH → Prop) : lstep PR (ACall PR M) (ALoop PR M) (M 69) (sub [true, false, true, false, false] c69) [.slice z3, .bot, .bot, .bot, .bot, .bot, .bot, .bot, .slice z4, .int .i64 z5, .int .i64 z6, .bot, .bot, .bot, .bot, .bot, .bot, .bot, .bot, .bot, .bot, .bot, .bot, .bot, .bot, .bot, .bot] h16 (fun e7 env8 h9 =>
  exCase e7 (
    chkSl (env8.getD 0 .bot) fun u11 =>
    Kr u11 (env8.getD 4 .bot) (env8.getD 5 .bot) h9
  ) fun i10 =>
  bif i10 == 0 then (
    chkSl (env8.getD 0 .bot) fun u12 =>
    K0 u12 (env8.getD 4 .bot) (env8.getD 5 .bot) h9
  ) else (
    False
  )
  ) = region_bytes_L0w z3 z4 z5 z6 h16 Kr K0 := by kernel_rfl
theorem region_bytes_L0.go {z3 : Option Sl} {z4 : Option Sl} {z5 : Int} {z6 : Int} {h16 : AH} {Kr : Option Sl → AV → AV → AH → Prop} {K0 : Option Sl → AV → AV → AH → Prop} (hh : region_bytes_L0w z3 z4 z5 z6 h16 Kr K0) : region_bytes_L0 z3 z4 z5 z6 h16 Kr K0 := step_loop' (region_bytes_L0.eq z3 z4 z5 z6 h16 Kr K0) hh
def region_bytesw (b_1 : Option Sl) (l_2 : Option Sl) (h : AH) (K : Option Sl → Bool → AH → Prop) : Prop :=
    region_bytes_L0 b_1 l_2 ((lenO l_2 : Nat) : Int) 0 h
      (fun u27 u28 u29 h26 =>
        chkSl u28 fun x30 =>
        chkBool u29 fun b31 =>
        K x30 b31 h26
      )
      (fun u33 u34 u35 h32 =>
          K u33 true h32
      )
theorem region_bytes.eq (b_1 : Option Sl) (l_2 : Option Sl) (h : AH) (K : Option Sl → Bool → AH → Prop) : fstep PR (ACall PR M) (ALoop PR M) M 69 [.slice b_1, .slice l_2] h (fun v1 h2 =>
  asTup v1 fun l3 =>
  asCons l3 fun v4 l5 =>
  chkSl v4 fun x6 =>
  asCons l5 fun v7 l8 =>
  chkBool v7 fun b9 =>
  asNil l8 <|
  K x6 b9 h2
  ) = region_bytesw b_1 l_2 h K := by kernel_rfl
theorem region_bytes.go {b_1 : Option Sl} {l_2 : Option Sl} {h : AH} {K : Option Sl → Bool → AH → Prop} (hh : region_bytesw b_1 l_2 h K) : region_bytes b_1 l_2 h K := step_call (region_bytes.eq b_1 l_2 h K) hh

/-! depot/wire.Put -/
noncomputable def c70 : Code := bodyOf PR.funcs[70]?
def wire_Putw (b_1 : Option Sl) (n_2 : Int) (width_3 : Int) (h : AH) (K : Option Sl → Int → AH → Prop) : Prop :=
  br (decide (width_3 < 1)) (
      K none 2 h
  ) (
    br (decide (width_3 > 7)) (
      K none 2 h
    ) (
      br (decide (n_2 < 0)) (
          K none 3 h
      ) (
        if (IntKind.wrap .i64 (8 * width_3)) < 0 then (
          False
        ) else (
          br ((Int.fdiv n_2 (2 ^ (min (Int.toNat (IntKind.wrap .i64 (8 * width_3))) (IntKind.bits .i64)))) != 0) (
            K none 3 h
          ) (
            wire_of n_2 h fun r_06 r_17 r_28 r_39 r_410 r_511 r_612 r_713 h5 =>
            new h5 (.cells [.int .u8 0, .int .u8 0, .int .u8 0, .int .u8 0, .int .u8 0, .int .u8 0, .int .u8 0, .int .u8 0] false) fun i15 h14 =>
            ob (AH.puts h14 i15 0 [.int .u8 r_06, .int .u8 r_17, .int .u8 r_28, .int .u8 r_39, .int .u8 r_410, .int .u8 r_511, .int .u8 r_612, .int .u8 r_713]) fun h16 =>
              need ((0 : Int) ≤ 0 ∧ 0 ≤ IntKind.wrap .i64 (((lenO b_1 : Nat) : Int) + width_3) ∧ IntKind.wrap .i64 (((lenO b_1 : Nat) : Int) + width_3) ≤ 1099511627776 ∧ 1 ≤ 128) <|
              new h16 (.cells (repZero [.int .u8 0] (Int.toNat (IntKind.wrap .i64 (((lenO b_1 : Nat) : Int) + width_3)))) false) fun i18 h17 =>
                aNews h17 1 (.slice b_1) fun x19 n20 =>
                guardR (x19.all AV.scal && true && true) <|
                aAppend h17 1 1 (some ⟨i18, 0, Int.toNat 0, Int.toNat (IntKind.wrap .i64 (((lenO b_1 : Nat) : Int) + width_3)), none⟩) x19 n20 fun s21 h22 =>
                  need ((0 : Int) ≤ width_3 ∧ width_3 ≤ ((8 : Nat) : Int)) <|
                  aNews h22 1 (.slice (some ⟨i15, if 8 = 0 then 0 else 0 + 0 * 1, (Int.toNat width_3) - 0, 8 - 0, none⟩)) fun x23 n24 =>
                  guardR (x23.all AV.scal && true && true) <|
                  aAppend h22 1 1 s21 x23 n24 fun s25 h26 =>
                    K s25 0 h26
          )
        )
      )
    )
  )
theorem wire_Put.eq (b_1 : Option Sl) (n_2 : Int) (width_3 : Int) (h : AH) (K : Option Sl → Int → AH → Prop) : fstep PR (ACall PR M) (ALoop PR M) M 70 [.slice b_1, .int .i64 n_2, .int .i64 width_3] h (fun v1 h2 =>
  asTup v1 fun l3 =>
  asCons l3 fun v4 l5 =>
  chkSl v4 fun x6 =>
  asCons l5 fun v7 l8 =>
  chkInt .i64 v7 fun n9 =>
  asNil l8 <|
  K x6 n9 h2
  ) = wire_Putw b_1 n_2 width_3 h K := by kernel_rfl
theorem wire_Put.go {b_1 : Option Sl} {n_2 : Int} {width_3 : Int} {h : AH} {K : Option Sl → Int → AH → Prop} (hh : wire_Putw b_1 n_2 width_3 h K) : wire_Put b_1 n_2 width_3 h K := step_call (wire_Put.eq b_1 n_2 width_3 h K) hh

/-! depot/depotref03.Put -/
noncomputable def c71 : Code := bodyOf PR.funcs[71]?
def depotref03_Put_L0 (z10 : Int) (z11 : Int) (z12 : Option Sl) (z13 : Int) (z14 : Int) (h23 : AH) (K0 : Option Sl → Int → AH → Prop) : Prop := ALoop PR M (M 71) (sub [true, true, true, true, false, true, false, false] c71) [.bot, .int .i64 z10, .int .i64 z11, .bot, .bot, .bot, .bot, .bot, .slice z12, .int .i64 z13, .int .i64 z14, .bot, .bot, .bot, .bot, .bot, .bot, .bot, .bot, .bot, .bot, .bot, .bot, .bot, .bot, .bot, .bot, .bot, .bot, .bot, .bot, .bot, .bot, .bot, .bot, .bot, .bot, .bot, .bot, .bot, .bot] h23 fun e15 env16 h17 =>
  exCase e15 (
    False
  ) fun i18 =>
  bif i18 == 0 then (
    guardR (AV.beq (.int .i64 z10) (env16.getD 1 .bot)) <|
    chkSl (env16.getD 8 .bot) fun u19 =>
    chkInt .i64 (env16.getD 9 .bot) fun u20 =>
    K0 u19 u20 h17
  ) else (
    False
  )
def depotref03_Put_L0w (z10 : Int) (z11 : Int) (z12 : Option Sl) (z13 : Int) (z14 : Int) (h23 : AH) (K0 : Option Sl → Int → AH → Prop) : Prop :=
  br (decide (z14 < z11)) (
    new h23 (.cells [.int .u8 (IntKind.wrap .u8 (Int.tmod z13 256))] false) fun i25 h24 =>
    aNews h24 1 (.slice (some ⟨i25, 0, 1, 1, none⟩)) fun x26 n27 =>
    guardR (x26.all AV.scal && true && true) <|
    aAppend h24 1 1 z12 x26 n27 fun s28 h29 =>
      depotref03_Put_L0 z10 z11 s28 (IntKind.wrap .i64 (Int.tdiv z13 256)) (IntKind.wrap .i64 (z14 + 1)) h29 K0
  ) (
    guardR (AV.beq (.int .i64 z10) (.int .i64 z10)) <|
    K0 z12 z13 h23
  )
theorem depotref03_Put_L0.eq (z10 : Int) (z11 : Int) (z12 : Option Sl) (z13 : Int) (z14 : Int) (h23 : AH) (K0 : Option Sl → Int → AH → Prop) : lstep PR (ACall PR M) (ALoop PR M) (M 71) (sub [true, true, true, true, false, true, false, false] c71) [.bot, .int .i64 z10, .int .i64 z11, .bot, .bot, .bot, .bot, .bot, .slice z12, .int .i64 z13, .int .i64 z14, .bot, .bot, .bot, .bot, .bot, .bot, .bot, .bot, .bot, .bot, .bot, .bot, .bot, .bot, .bot, .bot, .bot, .bot, .bot, .bot, .bot, .bot, .bot, .bot, .bot, .bot, .bot, .bot, .bot, .bot] h23 (fun e15 env16 h17 =>
  exCase e15 (
    False
  ) fun i18 =>
  bif i18 == 0 then (
    guardR (AV.beq (.int .i64 z10) (env16.getD 1 .bot)) <|
    chkSl (env16.getD 8 .bot) fun u19 =>
    chkInt .i64 (env16.getD 9 .bot) fun u20 =>
    K0 u19 u20 h17
  ) else (
    False
  )
  ) = depotref03_Put_L0w z10 z11 z12 z13 z14 h23 K0 := by kernel_rfl
theorem depotref03_Put_L0.go {z10 : Int} {z11 : Int} {z12 : Option Sl} {z13 : Int} {z14 : Int} {h23 : AH} {K0 : Option Sl → Int → AH → Prop} (hh : depotref03_Put_L0w z10 z11 z12 z13 z14 h23 K0) : depotref03_Put_L0 z10 z11 z12 z13 z14 h23 K0 := step_loop' (depotref03_Put_L0.eq z10 z11 z12 z13 z14 h23 K0) hh
def depotref03_Putw (b_1 : Option Sl) (n_2 : Int) (width_3 : Int) (h : AH) (K : Option Sl → Int → AH → Prop) : Prop :=
  br (decide (width_3 < 1)) (
      K none 2 h
  ) (
    br (decide (width_3 > 7)) (
      K none 2 h
    ) (
      new h (.cells [] false) fun i5 h4 =>
      aNews h4 1 (.slice b_1) fun x6 n7 =>
      guardR (x6.all AV.scal && true && true) <|
      aAppend h4 1 1 (some ⟨i5, 0, 0, 0, none⟩) x6 n7 fun s8 h9 =>
          depotref03_Put_L0 n_2 width_3 s8 n_2 0 h9
            (fun u31 u32 h30 =>
              br (decide (n_2 < 0)) (
                  K none 3 h30
              ) (
                br (decide (u32 > 0)) (
                  K none 3 h30
                ) (
                    K u31 0 h30
                )
              )
            )
    )
  )
theorem depotref03_Put.eq (b_1 : Option Sl) (n_2 : Int) (width_3 : Int) (h : AH) (K : Option Sl → Int → AH → Prop) : fstep PR (ACall PR M) (ALoop PR M) M 71 [.slice b_1, .int .i64 n_2, .int .i64 width_3] h (fun v1 h2 =>
  asTup v1 fun l3 =>
  asCons l3 fun v4 l5 =>
  chkSl v4 fun x6 =>
  asCons l5 fun v7 l8 =>
  chkInt .i64 v7 fun n9 =>
  asNil l8 <|
  K x6 n9 h2
  ) = depotref03_Putw b_1 n_2 width_3 h K := by kernel_rfl
theorem depotref03_Put.go {b_1 : Option Sl} {n_2 : Int} {width_3 : Int} {h : AH} {K : Option Sl → Int → AH → Prop} (hh : depotref03_Putw b_1 n_2 width_3 h K) : depotref03_Put b_1 n_2 width_3 h K := step_call (depotref03_Put.eq b_1 n_2 width_3 h K) hh

/-! depot/wire.Get -/
noncomputable def c72 : Code := bodyOf PR.funcs[72]?
def wire_Get_L0 (z4 : Option Sl) (z5 : Int) (z6 : Int) (z7 : Int) (z8 : Int) (z9 : Int) (h16 : AH) (K1 : Int → AH → Prop) : Prop := ALoop PR M (M 72) (sub [true, true, true, false, true, false, false] c72) [.slice z4, .int .i64 z5, .bot, .bot, .bot, .bot, .bot, .bot, .int .i64 z6, .int .i64 z7, .bot, .bot, .bot, .bot, .bot, .bot, .bot, .bot, .bot, .bot, .bot, .bot, .bot, .bot, .bot, .bot, .bot, .bot, .bot, .bot, .bot, .bot, .bot, .bot, .bot, .int .i64 z8, .int .i64 z9, .bot, .bot, .bot, .bot, .bot, .bot, .bot, .bot, .bot, .bot, .bot, .bot, .bot, .bot, .bot, .bot, .bot] h16 fun e10 env11 h12 =>
  exCase e10 (
    False
  ) fun i13 =>
  bif i13 == 1 then (
    chkInt .i64 (env11.getD 8 .bot) fun u14 =>
    K1 u14 h12
  ) else (
    False
  )
def wire_Get_L0w (z4 : Option Sl) (z5 : Int) (z6 : Int) (z7 : Int) (z8 : Int) (z9 : Int) (h16 : AH) (K1 : Int → AH → Prop) : Prop :=
  br (decide (z9 < z8)) (
      ob z4 fun s17 =>
      need ((0 : Int) ≤ IntKind.wrap .i64 (z5 + z9) ∧ IntKind.wrap .i64 (z5 + z9) < ((s17.len : Nat) : Int)) <|
      ob (AH.cell h16 s17.id (s17.off + Int.toNat (IntKind.wrap .i64 (z5 + z9)) * 1)) fun v18 =>
      chkInt .u8 v18 fun n19 =>
        wire_Get_L0 z4 z5 (IntKind.wrap .i64 (z6 + (IntKind.wrap .i64 (z7 * (IntKind.wrap .i64 n19))))) (IntKind.wrap .i64 (z7 * 256)) z8 (IntKind.wrap .i64 (z9 + 1)) h16 K1
  ) (
    K1 z6 h16
  )
theorem wire_Get_L0.eq (z4 : Option Sl) (z5 : Int) (z6 : Int) (z7 : Int) (z8 : Int) (z9 : Int) (h16 : AH) (K1 : Int → AH → Prop) : lstep PR (ACall PR M) (ALoop PR M) (M 72) (sub [true, true, true, false, true, false, false] c72) [.slice z4, .int .i64 z5, .bot, .bot, .bot, .bot, .bot, .bot, .int .i64 z6, .int .i64 z7, .bot, .bot, .bot, .bot, .bot, .bot, .bot, .bot, .bot, .bot, .bot, .bot, .bot, .bot, .bot, .bot, .bot, .bot, .bot, .bot, .bot, .bot, .bot, .bot, .bot, .int .i64 z8, .int .i64 z9, .bot, .bot, .bot, .bot, .bot, .bot, .bot, .bot, .bot, .bot, .bot, .bot, .bot, .bot, .bot, .bot, .bot] h16 (fun e10 env11 h12 =>
  exCase e10 (
    False
  ) fun i13 =>
  bif i13 == 1 then (
    chkInt .i64 (env11.getD 8 .bot) fun u14 =>
    K1 u14 h12
  ) else (
    False
  )
  ) = wire_Get_L0w z4 z5 z6 z7 z8 z9 h16 K1 := by kernel_rfl
theorem wire_Get_L0.go {z4 : Option Sl} {z5 : Int} {z6 : Int} {z7 : Int} {z8 : Int} {z9 : Int} {h16 : AH} {K1 : Int → AH → Prop} (hh : wire_Get_L0w z4 z5 z6 z7 z8 z9 h16 K1) : wire_Get_L0 z4 z5 z6 z7 z8 z9 h16 K1 := step_loop' (wire_Get_L0.eq z4 z5 z6 z7 z8 z9 h16 K1) hh
def wire_Getw (b_1 : Option Sl) (at_2 : Int) (width_3 : Int) (h : AH) (K : Int → Int → AH → Prop) : Prop :=
  br (decide (width_3 < 1)) (
      K 0 2 h
  ) (
    br (decide (width_3 > 7)) (
      K 0 2 h
    ) (
      br (decide (at_2 < 0)) (
          K 0 6 h
      ) (
        br (decide (at_2 > ((lenO b_1 : Nat) : Int))) (
            K 0 6 h
        ) (
          br (decide (width_3 > (IntKind.wrap .i64 (((lenO b_1 : Nat) : Int) - at_2)))) (
            K 0 6 h
          ) (
              wire_Get_L0 b_1 at_2 0 1 width_3 0 h
                (fun u21 h20 =>
                    K u21 0 h20
                )
          )
        )
      )
    )
  )
theorem wire_Get.eq (b_1 : Option Sl) (at_2 : Int) (width_3 : Int) (h : AH) (K : Int → Int → AH → Prop) : fstep PR (ACall PR M) (ALoop PR M) M 72 [.slice b_1, .int .i64 at_2, .int .i64 width_3] h (fun v1 h2 =>
  asTup v1 fun l3 =>
  asCons l3 fun v4 l5 =>
  chkInt .i64 v4 fun n6 =>
  asCons l5 fun v7 l8 =>
  chkInt .i64 v7 fun n9 =>
  asNil l8 <|
  K n6 n9 h2
  ) = wire_Getw b_1 at_2 width_3 h K := by kernel_rfl
theorem wire_Get.go {b_1 : Option Sl} {at_2 : Int} {width_3 : Int} {h : AH} {K : Int → Int → AH → Prop} (hh : wire_Getw b_1 at_2 width_3 h K) : wire_Get b_1 at_2 width_3 h K := step_call (wire_Get.eq b_1 at_2 width_3 h K) hh

end Go.Abs
