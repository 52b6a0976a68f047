/- Printed by gen2.py: what functions of the program come to. -/
import Derived.Test.YtdpecfeofcibhaaG0
import Derived.KernelRfl
set_option maxRecDepth 100000
namespace Go.Abs
open Go.Proofs

/-! depot/depotlaw25.RegionKills -/
noncomputable def c4 : Code := bodyOf PR.funcs[4]?
def depotlaw25_RegionKillsw (l_1 : Option Sl) (payload_2 : Option Sl) (h : AH) (K : Bool → AH → Prop) : Prop :=
  br (decide (((lenO l_1 : Nat) : Int) > 200)) (
    depotlaw25_regions h fun r5 h4 =>
      K r5 h4
  ) (
    br (decide (((lenO payload_2 : Nat) : Int) > 1000)) (
      depotlaw25_regions h fun r8 h7 =>
        K r8 h7
    ) (
      region_KillLoad l_1 h fun r_011 r_112 h10 =>
        depotref25_KillLoad l_1 h10 fun r_015 r_116 h14 =>
          region_Kills payload_2 h14 fun r_019 r_120 h18 =>
            depotref25_Kills payload_2 h18 fun r_023 r_124 h22 =>
              br (r_112 == 0) (
                region_Kills r_011 h22 fun r_027 r_128 h26 =>
                  br (r_128 != 0) (
                      K false h26
                  ) (
                    depotref25_Places r_027 l_1 h26 fun r31 h30 =>
                      br (!r31) (
                        K false h30
                      ) (
                        depotref03_Same r_011 r_015 h30 fun r34 h33 =>
                        br r34 (
                          br (r_112 == r_116) (
                            depotref25_Places r_019 r_023 h33 fun r37 h36 =>
                            br r37 (
                              br (r_120 == r_124) (
                                depotlaw25_regions h36 fun r40 h39 =>
                                  K r40 h39
                              ) (
                                K false h36
                              )
                            ) (
                              K false h36
                            )
                          ) (
                            K false h33
                          )
                        ) (
                          K false h33
                        )
                      )
                  )
              ) (
                depotref03_Same r_011 r_015 h22 fun r43 h42 =>
                br r43 (
                  br (r_112 == r_116) (
                    depotref25_Places r_019 r_023 h42 fun r46 h45 =>
                    br r46 (
                      br (r_120 == r_124) (
                        depotlaw25_regions h45 fun r49 h48 =>
                          K r49 h48
                      ) (
                        K false h45
                      )
                    ) (
                      K false h45
                    )
                  ) (
                    K false h42
                  )
                ) (
                  K false h42
                )
              )
    )
  )
theorem depotlaw25_RegionKills.eq (l_1 : Option Sl) (payload_2 : Option Sl) (h : AH) (K : Bool → AH → Prop) : fstep PR (ACall PR M) (ALoop PR M) M 4 [.slice l_1, .slice payload_2] h (fun v1 h2 =>
  chkBool v1 fun b3 =>
  K b3 h2
  ) = depotlaw25_RegionKillsw l_1 payload_2 h K := by kernel_rfl
theorem depotlaw25_RegionKills.go {l_1 : Option Sl} {payload_2 : Option Sl} {h : AH} {K : Bool → AH → Prop} (hh : depotlaw25_RegionKillsw l_1 payload_2 h K) : depotlaw25_RegionKills l_1 payload_2 h K := step_call (depotlaw25_RegionKills.eq l_1 payload_2 h K) hh

/-! depot/depotref25.KillLoad -/
noncomputable def c17 : Code := bodyOf PR.funcs[17]?
def depotref25_KillLoad_L0 (z2 : Option Sl) (z3 : Option Sl) (z4 : Int) (h14 : AH) (Kr : AV → AV → Option Sl → AH → Prop) (K0 : AV → AV → Option Sl → AH → Prop) : Prop := ALoop PR M (M 17) (sub [true, true, false, true, false, false] c17) [.slice z2, .bot, .bot, .bot, .slice z3, .int .i64 z4, .bot, .bot, .bot, .bot, .bot, .bot, .bot, .bot, .bot, .bot, .bot, .bot, .bot, .bot, .bot, .bot, .bot, .bot, .bot, .bot, .bot, .bot, .bot, .bot, .bot, .bot, .bot, .bot, .bot, .bot, .bot, .bot, .bot, .bot, .bot, .bot, .bot, .bot, .bot, .bot, .bot, .bot, .bot, .bot, .bot, .bot, .bot, .bot, .bot, .bot, .bot, .bot, .bot, .bot, .bot, .bot] h14 fun e5 env6 h7 =>
  exCase e5 (
    chkSl (env6.getD 4 .bot) fun u9 =>
    Kr (env6.getD 2 .bot) (env6.getD 3 .bot) u9 h7
  ) fun i8 =>
  bif i8 == 0 then (
    chkSl (env6.getD 4 .bot) fun u10 =>
    K0 (env6.getD 2 .bot) (env6.getD 3 .bot) u10 h7
  ) else (
    False
  )
def depotref25_KillLoad_L0w (z2 : Option Sl) (z3 : Option Sl) (z4 : Int) (h14 : AH) (Kr : AV → AV → Option Sl → AH → Prop) (K0 : AV → AV → Option Sl → AH → Prop) : Prop :=
  br (decide (z4 < ((lenO z2 : Nat) : Int))) (
    ob z2 fun s15 =>
    need ((0 : Int) ≤ z4 ∧ z4 < ((s15.len : Nat) : Int)) <|
    ob (AH.cellsAt h14 s15.id (s15.off + Int.toNat z4 * 3) 3) fun cs16 =>
    ints3 .i64 cs16 fun n17 n18 n19 =>
    new h14 (.cells [.int .i64 0, .int .i64 0, .int .i64 0] false) fun i21 h20 =>
    ob (AH.puts h20 i21 0 [.int .i64 n17, .int .i64 n18, .int .i64 n19]) fun h22 =>
      ob (AH.cell h22 i21 0) fun v23 =>
      chkInt .i64 v23 fun n24 =>
      br (decide (n24 < 0)) (
          Kr (.slice none) (.int .i64 3) z3 h22
      ) (
        ob (AH.cell h22 i21 0) fun v25 =>
        chkInt .i64 v25 fun n26 =>
        br (decide (n26 > 15)) (
            Kr (.slice none) (.int .i64 3) z3 h22
        ) (
          ob (AH.cell h22 i21 1) fun v27 =>
          chkInt .i64 v27 fun n28 =>
          br (decide (n28 < 0)) (
              Kr (.slice none) (.int .i64 3) z3 h22
          ) (
            ob (AH.cell h22 i21 1) fun v29 =>
            chkInt .i64 v29 fun n30 =>
            br (decide (n30 > 15)) (
                Kr (.slice none) (.int .i64 3) z3 h22
            ) (
              ob (AH.cell h22 i21 2) fun v31 =>
              chkInt .i64 v31 fun n32 =>
              br (decide (n32 < 1)) (
                  Kr (.slice none) (.int .i64 3) z3 h22
              ) (
                ob (AH.cell h22 i21 2) fun v33 =>
                chkInt .i64 v33 fun n34 =>
                  br (decide (n34 > 1073741824)) (
                    Kr (.slice none) (.int .i64 3) z3 h22
                  ) (
                    ob (AH.cell h22 i21 0) fun v35 =>
                    chkInt .i64 v35 fun n36 =>
                    ob (AH.cell h22 i21 1) fun v37 =>
                    chkInt .i64 v37 fun n38 =>
                    new h22 (.cells [.int .u8 (IntKind.wrap .u8 n36), .int .u8 (IntKind.wrap .u8 n38)] false) fun i40 h39 =>
                    aNews h39 1 (.slice (some ⟨i40, 0, 2, 2, none⟩)) fun x41 n42 =>
                    guardR (x41.all AV.scal && true && true) <|
                    aAppend h39 1 1 z3 x41 n42 fun s43 h44 =>
                      ob (AH.cell h44 i21 2) fun v45 =>
                      chkInt .i64 v45 fun n46 =>
                      depotref03_Put s43 n46 4 h44 fun r_049 r_150 h48 =>
                        depotref25_KillLoad_L0 z2 r_049 (IntKind.wrap .i64 (z4 + 1)) h48 Kr K0
                  )
              )
            )
          )
        )
      )
  ) (
    K0 .bot .bot z3 h14
  )
theorem depotref25_KillLoad_L0.eq (z2 : Option Sl) (z3 : Option Sl) (z4 : Int) (h14 : AH) (Kr : AV → AV → Option Sl → AH → Prop) (K0 : AV → AV → Option Sl → AH → Prop) : lstep PR (ACall PR M) (ALoop PR M) (M 17) (sub [true, true, false, true, false, false] c17) [.slice z2, .bot, .bot, .bot, .slice z3, .int .i64 z4, .bot, .bot, .bot, .bot, .bot, .bot, .bot, .bot, .bot, .bot, .bot, .bot, .bot, .bot, .bot, .bot, .bot, .bot, .bot, .bot, .bot, .bot, .bot, .bot, .bot, .bot, .bot, .bot, .bot, .bot, .bot, .bot, .bot, .bot, .bot, .bot, .bot, .bot, .bot, .bot, .bot, .bot, .bot, .bot, .bot, .bot, .bot, .bot, .bot, .bot, .bot, .bot, .bot, .bot, .bot, .bot] h14 (fun e5 env6 h7 =>
  exCase e5 (
    chkSl (env6.getD 4 .bot) fun u9 =>
    Kr (env6.getD 2 .bot) (env6.getD 3 .bot) u9 h7
  ) fun i8 =>
  bif i8 == 0 then (
    chkSl (env6.getD 4 .bot) fun u10 =>
    K0 (env6.getD 2 .bot) (env6.getD 3 .bot) u10 h7
  ) else (
    False
  )
  ) = depotref25_KillLoad_L0w z2 z3 z4 h14 Kr K0 := by kernel_rfl
theorem depotref25_KillLoad_L0.go {z2 : Option Sl} {z3 : Option Sl} {z4 : Int} {h14 : AH} {Kr : AV → AV → Option Sl → AH → Prop} {K0 : AV → AV → Option Sl → AH → Prop} (hh : depotref25_KillLoad_L0w z2 z3 z4 h14 Kr K0) : depotref25_KillLoad_L0 z2 z3 z4 h14 Kr K0 := step_loop' (depotref25_KillLoad_L0.eq z2 z3 z4 h14 Kr K0) hh
def depotref25_KillLoadw (l_1 : Option Sl) (h : AH) (K : Option Sl → Int → AH → Prop) : Prop :=
    depotref25_KillLoad_L0 l_1 none 0 h
      (fun u52 u53 u54 h51 =>
        chkSl u52 fun x55 =>
        chkInt .i64 u53 fun n56 =>
        K x55 n56 h51
      )
      (fun u58 u59 u60 h57 =>
          K u60 0 h57
      )
theorem depotref25_KillLoad.eq (l_1 : Option Sl) (h : AH) (K : Option Sl → Int → AH → Prop) : fstep PR (ACall PR M) (ALoop PR M) M 17 [.slice l_1] h (fun v1 h2 =>
  asTup v1 fun l3 =>
  asCons l3 fun v4 l5 =>
  chkSl v4 fun x6 =>
  asCons l5 fun v7 l8 =>
  chkInt .i64 v7 fun n9 =>
  asNil l8 <|
  K x6 n9 h2
  ) = depotref25_KillLoadw l_1 h K := by kernel_rfl
theorem depotref25_KillLoad.go {l_1 : Option Sl} {h : AH} {K : Option Sl → Int → AH → Prop} (hh : depotref25_KillLoadw l_1 h K) : depotref25_KillLoad l_1 h K := step_call (depotref25_KillLoad.eq l_1 h K) hh

/-! depot/depotref25.Kills -/
noncomputable def c19 : Code := bodyOf PR.funcs[19]?
def depotref25_Kills_L0 (z2 : Option Sl) (z3 : Option Sl) (z4 : Int) (h11 : AH) (K0 : Option Sl → AH → Prop) : Prop := ALoop PR M (M 19) (sub [true, true, true, false, true, false, false] c19) [.slice z2, .bot, .bot, .bot, .slice z3, .int .i64 z4, .bot, .bot, .bot, .bot, .bot, .bot, .bot, .bot, .bot, .bot, .bot, .bot, .bot, .bot, .bot, .bot, .bot, .bot, .bot, .bot, .bot, .bot, .bot, .bot, .bot, .bot, .bot, .bot, .bot, .bot, .bot, .bot, .bot, .bot, .bot, .bot, .bot, .bot, .bot, .bot, .bot, .bot, .bot, .bot, .bot] h11 fun e5 env6 h7 =>
  exCase e5 (
    False
  ) fun i8 =>
  bif i8 == 0 then (
    chkSl (env6.getD 4 .bot) fun u9 =>
    K0 u9 h7
  ) else (
    False
  )
def depotref25_Kills_L0w (z2 : Option Sl) (z3 : Option Sl) (z4 : Int) (h11 : AH) (K0 : Option Sl → AH → Prop) : Prop :=
  br (decide (z4 < ((lenO z2 : Nat) : Int))) (
    depotref03_Get z2 (IntKind.wrap .i64 (z4 + 2)) 4 h11 fun r_014 r_115 h13 =>
      hold h13 1 fun h16 =>
      ob z2 fun s17 =>
      need ((0 : Int) ≤ z4 ∧ z4 < ((s17.len : Nat) : Int)) <|
      ob (AH.cell h16 s17.id (s17.off + Int.toNat z4 * 1)) fun v18 =>
      chkInt .u8 v18 fun n19 =>
      ob z2 fun s20 =>
      need ((0 : Int) ≤ IntKind.wrap .i64 (z4 + 1) ∧ IntKind.wrap .i64 (z4 + 1) < ((s20.len : Nat) : Int)) <|
      ob (AH.cell h16 s20.id (s20.off + Int.toNat (IntKind.wrap .i64 (z4 + 1)) * 1)) fun v21 =>
      chkInt .u8 v21 fun n22 =>
      birth h16 (h13.length + 0) (.cells [.int .i64 (IntKind.wrap .i64 n19), .int .i64 (IntKind.wrap .i64 n22), .int .i64 r_014] false) fun h23 =>
      aNews h23 3 (.slice (some ⟨(h13.length + 0), 0, 1, 1, none⟩)) fun x24 n25 =>
      guardR (x24.all AV.scal && true && true) <|
      aAppend h23 3 24 z3 x24 n25 fun s26 h27 =>
        depotref25_Kills_L0 z2 s26 (IntKind.wrap .i64 (z4 + 6)) h27 K0
  ) (
    K0 z3 h11
  )
theorem depotref25_Kills_L0.eq (z2 : Option Sl) (z3 : Option Sl) (z4 : Int) (h11 : AH) (K0 : Option Sl → AH → Prop) : lstep PR (ACall PR M) (ALoop PR M) (M 19) (sub [true, true, true, false, true, false, false] c19) [.slice z2, .bot, .bot, .bot, .slice z3, .int .i64 z4, .bot, .bot, .bot, .bot, .bot, .bot, .bot, .bot, .bot, .bot, .bot, .bot, .bot, .bot, .bot, .bot, .bot, .bot, .bot, .bot, .bot, .bot, .bot, .bot, .bot, .bot, .bot, .bot, .bot, .bot, .bot, .bot, .bot, .bot, .bot, .bot, .bot, .bot, .bot, .bot, .bot, .bot, .bot, .bot, .bot] h11 (fun e5 env6 h7 =>
  exCase e5 (
    False
  ) fun i8 =>
  bif i8 == 0 then (
    chkSl (env6.getD 4 .bot) fun u9 =>
    K0 u9 h7
  ) else (
    False
  )
  ) = depotref25_Kills_L0w z2 z3 z4 h11 K0 := by kernel_rfl
theorem depotref25_Kills_L0.go {z2 : Option Sl} {z3 : Option Sl} {z4 : Int} {h11 : AH} {K0 : Option Sl → AH → Prop} (hh : depotref25_Kills_L0w z2 z3 z4 h11 K0) : depotref25_Kills_L0 z2 z3 z4 h11 K0 := step_loop' (depotref25_Kills_L0.eq z2 z3 z4 h11 K0) hh
def depotref25_Killsw (payload_1 : Option Sl) (h : AH) (K : Option Sl → Int → AH → Prop) : Prop :=
    br ((Int.tmod ((lenO payload_1 : Nat) : Int) 6) != 0) (
      K none 5 h
    ) (
        depotref25_Kills_L0 payload_1 none 0 h
          (fun u29 h28 =>
            depotref25_KillLoad u29 h28 fun r_032 r_133 h31 =>
              br (r_133 != 0) (
                K none 5 h31
              ) (
                  K u29 0 h31
              )
          )
    )
theorem depotref25_Kills.eq (payload_1 : Option Sl) (h : AH) (K : Option Sl → Int → AH → Prop) : fstep PR (ACall PR M) (ALoop PR M) M 19 [.slice payload_1] h (fun v1 h2 =>
  asTup v1 fun l3 =>
  asCons l3 fun v4 l5 =>
  chkSl v4 fun x6 =>
  asCons l5 fun v7 l8 =>
  chkInt .i64 v7 fun n9 =>
  asNil l8 <|
  K x6 n9 h2
  ) = depotref25_Killsw payload_1 h K := by kernel_rfl
theorem depotref25_Kills.go {payload_1 : Option Sl} {h : AH} {K : Option Sl → Int → AH → Prop} (hh : depotref25_Killsw payload_1 h K) : depotref25_Kills payload_1 h K := step_call (depotref25_Kills.eq payload_1 h K) hh

/-! depot/depotref25.Places -/
noncomputable def c20 : Code := bodyOf PR.funcs[20]?
def depotref25_Places_L0 (z3 : Option Sl) (z4 : Option Sl) (z5 : Int) (h11 : AH) (Kr : AV → AH → Prop) (K0 : AV → AH → Prop) : Prop := ALoop PR M (M 20) (sub [true, true, false, true, false, false] c20) [.slice z3, .slice z4, .bot, .bot, .bot, .int .i64 z5, .bot, .bot, .bot, .bot, .bot, .bot, .bot, .bot, .bot, .bot, .bot, .bot, .bot, .bot, .bot, .bot, .bot, .bot, .bot, .bot] h11 fun e6 env7 h8 =>
  exCase e6 (
    Kr (env7.getD 4 .bot) h8
  ) fun i9 =>
  bif i9 == 0 then (
    K0 (env7.getD 4 .bot) h8
  ) else (
    False
  )
def depotref25_Places_L0w (z3 : Option Sl) (z4 : Option Sl) (z5 : Int) (h11 : AH) (Kr : AV → AH → Prop) (K0 : AV → AH → Prop) : Prop :=
  br (decide (z5 < ((lenO z3 : Nat) : Int))) (
    hold h11 0 fun h12 =>
    ob z3 fun s13 =>
    need ((0 : Int) ≤ z5 ∧ z5 < ((s13.len : Nat) : Int)) <|
    ob (AH.cellsAt h12 s13.id (s13.off + Int.toNat z5 * 3) 3) fun cs14 =>
    ints3 .i64 cs14 fun n15 n16 n17 =>
    ob z4 fun s18 =>
    need ((0 : Int) ≤ z5 ∧ z5 < ((s18.len : Nat) : Int)) <|
    ob (AH.cellsAt h12 s18.id (s18.off + Int.toNat z5 * 3) 3) fun cs19 =>
    ints3 .i64 cs19 fun n20 n21 n22 =>
      br (!((n15 == n20) && ((n16 == n21) && ((n17 == n22) && true)))) (
        Kr (.bool false) h12
      ) (
        depotref25_Places_L0 z3 z4 (IntKind.wrap .i64 (z5 + 1)) h12 Kr K0
      )
  ) (
    K0 .bot h11
  )
theorem depotref25_Places_L0.eq (z3 : Option Sl) (z4 : Option Sl) (z5 : Int) (h11 : AH) (Kr : AV → AH → Prop) (K0 : AV → AH → Prop) : lstep PR (ACall PR M) (ALoop PR M) (M 20) (sub [true, true, false, true, false, false] c20) [.slice z3, .slice z4, .bot, .bot, .bot, .int .i64 z5, .bot, .bot, .bot, .bot, .bot, .bot, .bot, .bot, .bot, .bot, .bot, .bot, .bot, .bot, .bot, .bot, .bot, .bot, .bot, .bot] h11 (fun e6 env7 h8 =>
  exCase e6 (
    Kr (env7.getD 4 .bot) h8
  ) fun i9 =>
  bif i9 == 0 then (
    K0 (env7.getD 4 .bot) h8
  ) else (
    False
  )
  ) = depotref25_Places_L0w z3 z4 z5 h11 Kr K0 := by kernel_rfl
theorem depotref25_Places_L0.go {z3 : Option Sl} {z4 : Option Sl} {z5 : Int} {h11 : AH} {Kr : AV → AH → Prop} {K0 : AV → AH → Prop} (hh : depotref25_Places_L0w z3 z4 z5 h11 Kr K0) : depotref25_Places_L0 z3 z4 z5 h11 Kr K0 := step_loop' (depotref25_Places_L0.eq z3 z4 z5 h11 Kr K0) hh
def depotref25_Placesw (a_1 : Option Sl) (b_2 : Option Sl) (h : AH) (K : Bool → AH → Prop) : Prop :=
    br (((lenO a_1 : Nat) : Int) != ((lenO b_2 : Nat) : Int)) (
      K false h
    ) (
        depotref25_Places_L0 a_1 b_2 0 h
          (fun u25 h24 =>
            chkBool u25 fun b26 =>
            K b26 h24
          )
          (fun u28 h27 =>
              K true h27
          )
    )
theorem depotref25_Places.eq (a_1 : Option Sl) (b_2 : Option Sl) (h : AH) (K : Bool → AH → Prop) : fstep PR (ACall PR M) (ALoop PR M) M 20 [.slice a_1, .slice b_2] h (fun v1 h2 =>
  chkBool v1 fun b3 =>
  K b3 h2
  ) = depotref25_Placesw a_1 b_2 h K := by kernel_rfl
theorem depotref25_Places.go {a_1 : Option Sl} {b_2 : Option Sl} {h : AH} {K : Bool → AH → Prop} (hh : depotref25_Placesw a_1 b_2 h K) : depotref25_Places a_1 b_2 h K := step_call (depotref25_Places.eq a_1 b_2 h K) hh

/-! depot/depotref03.Same -/
noncomputable def c21 : Code := bodyOf PR.funcs[21]?
def depotref03_Samew (a_1 : Option Sl) (b_2 : Option Sl) (h : AH) (K : Bool → AH → Prop) : Prop :=
  aBytes h a_1 fun q3 y4 =>
  aBytes h b_2 fun q5 y6 =>
    K (y4 == y6) h
theorem depotref03_Same.eq (a_1 : Option Sl) (b_2 : Option Sl) (h : AH) (K : Bool → AH → Prop) : fstep PR (ACall PR M) (ALoop PR M) M 21 [.slice a_1, .slice b_2] h (fun v1 h2 =>
  chkBool v1 fun b3 =>
  K b3 h2
  ) = depotref03_Samew a_1 b_2 h K := by kernel_rfl
theorem depotref03_Same.go {a_1 : Option Sl} {b_2 : Option Sl} {h : AH} {K : Bool → AH → Prop} (hh : depotref03_Samew a_1 b_2 h K) : depotref03_Same a_1 b_2 h K := step_call (depotref03_Same.eq a_1 b_2 h K) hh

end Go.Abs
