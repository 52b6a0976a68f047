/- Printed by gen2.py: what functions of the program come to. -/
import Derived.Test.YtdpecfeofcibhaaG0
import Derived.KernelRfl
set_option maxRecDepth 100000
namespace Go.Abs
open Go.Proofs

/-! depot/region.KillLoad -/
noncomputable def c16 : Code := bodyOf PR.funcs[16]?
def region_KillLoad_L0 (z2 : Option Sl) (z3 : Option Sl) (z4 : Int) (z5 : Int) (h15 : AH) (Kr : AV → AV → Option Sl → AH → Prop) (K0 : AV → AV → Option Sl → AH → Prop) : Prop := ALoop PR M (M 16) (sub [true, true, false, true, false, false] c16) [.bot, .bot, .bot, .bot, .slice z2, .bot, .bot, .slice z3, .int .i64 z4, .int .i64 z5, .bot, .bot, .bot, .bot, .bot, .bot, .bot, .bot, .bot, .bot, .bot, .bot, .bot, .bot, .bot, .bot, .bot, .bot, .bot, .bot, .bot, .bot, .bot, .bot, .bot] h15 fun e6 env7 h8 =>
  exCase e6 (
    chkSl (env7.getD 4 .bot) fun u10 =>
    Kr (env7.getD 2 .bot) (env7.getD 3 .bot) u10 h8
  ) fun i9 =>
  bif i9 == 0 then (
    chkSl (env7.getD 4 .bot) fun u11 =>
    K0 (env7.getD 2 .bot) (env7.getD 3 .bot) u11 h8
  ) else (
    False
  )
def region_KillLoad_L0w (z2 : Option Sl) (z3 : Option Sl) (z4 : Int) (z5 : Int) (h15 : AH) (Kr : AV → AV → Option Sl → AH → Prop) (K0 : AV → AV → Option Sl → AH → Prop) : Prop :=
  br (decide (z5 < z4)) (
    ob z3 fun s16 =>
    need ((0 : Int) ≤ z5 ∧ z5 < ((s16.len : Nat) : Int)) <|
    ob (AH.cellsAt h15 s16.id (s16.off + Int.toNat z5 * 3) 3) fun cs17 =>
    ints3 .i64 cs17 fun n18 n19 n20 =>
    new h15 (.cells [.int .i64 0, .int .i64 0, .int .i64 0] false) fun i22 h21 =>
    ob (AH.puts h21 i22 0 [.int .i64 n18, .int .i64 n19, .int .i64 n20]) fun h23 =>
      ob (AH.cellsAt h23 i22 0 3) fun cs24 =>
      ints3 .i64 cs24 fun n25 n26 n27 =>
      region_right n25 n26 n27 h23 fun r30 h29 =>
        br (!r30) (
          Kr (.slice none) (.int .i64 3) z2 h29
        ) (
          ob (AH.cell h29 i22 0) fun v31 =>
          chkInt .i64 v31 fun n32 =>
          ob (AH.cell h29 i22 1) fun v33 =>
          chkInt .i64 v33 fun n34 =>
          new h29 (.cells [.int .i64 n32, .int .i64 n34] false) fun i36 h35 =>
          region_bytes z2 (some ⟨i36, 0, 2, 2, none⟩) h35 fun r_039 r_140 h38 =>
            ob (AH.cell h38 i22 2) fun v41 =>
            chkInt .i64 v41 fun n42 =>
            wire_Put r_039 n42 4 h38 fun r_045 r_146 h44 =>
              region_KillLoad_L0 r_045 z3 z4 (IntKind.wrap .i64 (z5 + 1)) h44 Kr K0
        )
  ) (
    K0 .bot .bot z2 h15
  )
theorem region_KillLoad_L0.eq (z2 : Option Sl) (z3 : Option Sl) (z4 : Int) (z5 : Int) (h15 : AH) (Kr : AV → AV → Option Sl → AH → Prop) (K0 : AV → AV → Option Sl → AH → Prop) : lstep PR (ACall PR M) (ALoop PR M) (M 16) (sub [true, true, false, true, false, false] c16) [.bot, .bot, .bot, .bot, .slice z2, .bot, .bot, .slice z3, .int .i64 z4, .int .i64 z5, .bot, .bot, .bot, .bot, .bot, .bot, .bot, .bot, .bot, .bot, .bot, .bot, .bot, .bot, .bot, .bot, .bot, .bot, .bot, .bot, .bot, .bot, .bot, .bot, .bot] h15 (fun e6 env7 h8 =>
  exCase e6 (
    chkSl (env7.getD 4 .bot) fun u10 =>
    Kr (env7.getD 2 .bot) (env7.getD 3 .bot) u10 h8
  ) fun i9 =>
  bif i9 == 0 then (
    chkSl (env7.getD 4 .bot) fun u11 =>
    K0 (env7.getD 2 .bot) (env7.getD 3 .bot) u11 h8
  ) else (
    False
  )
  ) = region_KillLoad_L0w z2 z3 z4 z5 h15 Kr K0 := by kernel_rfl
theorem region_KillLoad_L0.go {z2 : Option Sl} {z3 : Option Sl} {z4 : Int} {z5 : Int} {h15 : AH} {Kr : AV → AV → Option Sl → AH → Prop} {K0 : AV → AV → Option Sl → AH → Prop} (hh : region_KillLoad_L0w z2 z3 z4 z5 h15 Kr K0) : region_KillLoad_L0 z2 z3 z4 z5 h15 Kr K0 := step_loop' (region_KillLoad_L0.eq z2 z3 z4 z5 h15 Kr K0) hh
def region_KillLoadw (l_1 : Option Sl) (h : AH) (K : Option Sl → Int → AH → Prop) : Prop :=
    region_KillLoad_L0 none l_1 ((lenO l_1 : Nat) : Int) 0 h
      (fun u48 u49 u50 h47 =>
        chkSl u48 fun x51 =>
        chkInt .i64 u49 fun n52 =>
        K x51 n52 h47
      )
      (fun u54 u55 u56 h53 =>
          K u56 0 h53
      )
theorem region_KillLoad.eq (l_1 : Option Sl) (h : AH) (K : Option Sl → Int → AH → Prop) : fstep PR (ACall PR M) (ALoop PR M) M 16 [.slice l_1] h (fun v1 h2 =>
  asTup v1 fun l3 =>
  asCons l3 fun v4 l5 =>
  chkSl v4 fun x6 =>
  asCons l5 fun v7 l8 =>
  chkInt .i64 v7 fun n9 =>
  asNil l8 <|
  K x6 n9 h2
  ) = region_KillLoadw l_1 h K := by kernel_rfl
theorem region_KillLoad.go {l_1 : Option Sl} {h : AH} {K : Option Sl → Int → AH → Prop} (hh : region_KillLoadw l_1 h K) : region_KillLoad l_1 h K := step_call (region_KillLoad.eq l_1 h K) hh

/-! depot/region.Kills -/
noncomputable def c18 : Code := bodyOf PR.funcs[18]?
def region_Kills_L0 (z2 : Option Sl) (z3 : Option Sl) (h13 : AH) (Kr : AV → AV → Option Sl → AH → Prop) (K0 : AV → AV → Option Sl → AH → Prop) : Prop := ALoop PR M (M 18) (sub [true, true, true, false, true, false, false] c18) [.bot, .bot, .bot, .bot, .slice z2, .slice z3, .bot, .bot, .bot, .bot, .bot, .bot, .bot, .bot, .bot, .bot, .bot, .bot, .bot, .bot, .bot, .bot, .bot, .bot, .bot, .bot, .bot, .bot, .bot, .bot, .bot, .bot, .bot, .bot, .bot, .bot, .bot, .bot, .bot, .bot, .bot, .bot] h13 fun e4 env5 h6 =>
  exCase e4 (
    chkSl (env5.getD 4 .bot) fun u8 =>
    Kr (env5.getD 2 .bot) (env5.getD 3 .bot) u8 h6
  ) fun i7 =>
  bif i7 == 0 then (
    chkSl (env5.getD 4 .bot) fun u9 =>
    K0 (env5.getD 2 .bot) (env5.getD 3 .bot) u9 h6
  ) else (
    False
  )
def region_Kills_L0w (z2 : Option Sl) (z3 : Option Sl) (h13 : AH) (Kr : AV → AV → Option Sl → AH → Prop) (K0 : AV → AV → Option Sl → AH → Prop) : Prop :=
  br (decide (((lenO z3 : Nat) : Int) > 0)) (
    wire_Get z3 2 4 h13 fun r_016 r_117 h15 =>
      hold h15 1 fun h18 =>
      ob z3 fun s19 =>
      need ((0 : Int) ≤ 0 ∧ 0 < ((s19.len : Nat) : Int)) <|
      ob (AH.cell h18 s19.id (s19.off + Int.toNat 0 * 1)) fun v20 =>
      chkInt .u8 v20 fun n21 =>
      ob z3 fun s22 =>
      need ((0 : Int) ≤ 1 ∧ 1 < ((s22.len : Nat) : Int)) <|
      ob (AH.cell h18 s22.id (s22.off + Int.toNat 1 * 1)) fun v23 =>
      chkInt .u8 v23 fun n24 =>
      birth h18 (h15.length + 0) (.cells [.int .i64 0, .int .i64 0, .int .i64 0] false) fun h25 =>
      ob (AH.puts h25 (h15.length + 0) 0 [.int .i64 (IntKind.wrap .i64 n21), .int .i64 (IntKind.wrap .i64 n24), .int .i64 r_016]) fun h26 =>
        ob (AH.cellsAt h26 (h15.length + 0) 0 3) fun cs27 =>
        ints3 .i64 cs27 fun n28 n29 n30 =>
        region_right n28 n29 n30 h26 fun r33 h32 =>
          br (!r33) (
            Kr (.slice none) (.int .i64 5) z2 h32
          ) (
            ob (AH.cellsAt h32 (h15.length + 0) 0 3) fun cs34 =>
            ints3 .i64 cs34 fun n35 n36 n37 =>
            new h32 (.cells [.int .i64 n35, .int .i64 n36, .int .i64 n37] false) fun i39 h38 =>
            aNews h38 3 (.slice (some ⟨i39, 0, 1, 1, none⟩)) fun x40 n41 =>
            guardR (x40.all AV.scal && true && true) <|
            aAppend h38 3 24 z2 x40 n41 fun s42 h43 =>
              need ((0 : Int) ≤ 6 ∧ 6 ≤ ((lenO z3 : Nat) : Int)) <|
              guardR (cutOkO 1 z3) <|
              region_Kills_L0 s42 (cutO 1 (Int.toNat 6) (lenO z3) z3) h43 Kr K0
          )
  ) (
    K0 .bot .bot z2 h13
  )
theorem region_Kills_L0.eq (z2 : Option Sl) (z3 : Option Sl) (h13 : AH) (Kr : AV → AV → Option Sl → AH → Prop) (K0 : AV → AV → Option Sl → AH → Prop) : lstep PR (ACall PR M) (ALoop PR M) (M 18) (sub [true, true, true, false, true, false, false] c18) [.bot, .bot, .bot, .bot, .slice z2, .slice z3, .bot, .bot, .bot, .bot, .bot, .bot, .bot, .bot, .bot, .bot, .bot, .bot, .bot, .bot, .bot, .bot, .bot, .bot, .bot, .bot, .bot, .bot, .bot, .bot, .bot, .bot, .bot, .bot, .bot, .bot, .bot, .bot, .bot, .bot, .bot, .bot] h13 (fun e4 env5 h6 =>
  exCase e4 (
    chkSl (env5.getD 4 .bot) fun u8 =>
    Kr (env5.getD 2 .bot) (env5.getD 3 .bot) u8 h6
  ) fun i7 =>
  bif i7 == 0 then (
    chkSl (env5.getD 4 .bot) fun u9 =>
    K0 (env5.getD 2 .bot) (env5.getD 3 .bot) u9 h6
  ) else (
    False
  )
  ) = region_Kills_L0w z2 z3 h13 Kr K0 := by kernel_rfl
theorem region_Kills_L0.go {z2 : Option Sl} {z3 : Option Sl} {h13 : AH} {Kr : AV → AV → Option Sl → AH → Prop} {K0 : AV → AV → Option Sl → AH → Prop} (hh : region_Kills_L0w z2 z3 h13 Kr K0) : region_Kills_L0 z2 z3 h13 Kr K0 := step_loop' (region_Kills_L0.eq z2 z3 h13 Kr K0) hh
def region_Killsw (payload_1 : Option Sl) (h : AH) (K : Option Sl → Int → AH → Prop) : Prop :=
    br ((Int.tmod ((lenO payload_1 : Nat) : Int) 6) != 0) (
      K none 5 h
    ) (
        region_Kills_L0 none payload_1 h
          (fun u45 u46 u47 h44 =>
            chkSl u45 fun x48 =>
            chkInt .i64 u46 fun n49 =>
            K x48 n49 h44
          )
          (fun u51 u52 u53 h50 =>
              K u53 0 h50
          )
    )
theorem region_Kills.eq (payload_1 : Option Sl) (h : AH) (K : Option Sl → Int → AH → Prop) : fstep PR (ACall PR M) (ALoop PR M) M 18 [.slice payload_1] h (fun v1 h2 =>
  asTup v1 fun l3 =>
  asCons l3 fun v4 l5 =>
  chkSl v4 fun x6 =>
  asCons l5 fun v7 l8 =>
  chkInt .i64 v7 fun n9 =>
  asNil l8 <|
  K x6 n9 h2
  ) = region_Killsw payload_1 h K := by kernel_rfl
theorem region_Kills.go {payload_1 : Option Sl} {h : AH} {K : Option Sl → Int → AH → Prop} (hh : region_Killsw payload_1 h K) : region_Kills payload_1 h K := step_call (region_Kills.eq payload_1 h K) hh

/-! depot/flash.New -/
noncomputable def c38 : Code := bodyOf PR.funcs[38]?
def flash_New_L0 (z36 : Option (Nat × Nat)) (z37 : Option (Nat × Nat)) (z38 : Int) (z39 : Int) (h44 : AH) (K0 : AH → Prop) : Prop := ALoop PR M (M 38) (sub [true, true, true, true, false, true, false, false] c38) [.bot, .ptr z36, .bot, .bot, .bot, .ptr z37, .bot, .bot, .bot, .bot, .bot, .bot, .bot, .bot, .bot, .bot, .bot, .bot, .bot, .bot, .bot, .bot, .bot, .bot, .bot, .bot, .bot, .bot, .bot, .bot, .bot, .bot, .bot, .int .i64 z38, .int .i64 z39, .bot, .bot, .bot, .bot, .bot, .bot, .bot, .bot, .bot, .bot, .bot, .bot, .bot, .bot, .bot, .bot, .bot, .bot, .bot, .bot, .bot, .bot, .bot, .bot] h44 fun e40 env41 h42 =>
  exCase e40 (
    False
  ) fun i43 =>
  bif i43 == 0 then (
    guardR (AV.beq (.ptr z37) (env41.getD 5 .bot)) <|
    K0 h42
  ) else (
    False
  )
def flash_New_L0w (z36 : Option (Nat × Nat)) (z37 : Option (Nat × Nat)) (z38 : Int) (z39 : Int) (h44 : AH) (K0 : AH → Prop) : Prop :=
  br (decide (z39 < z38)) (
    ob z36 fun a45 =>
    ob (AH.cell h44 a45.1 (a45.2 + 1)) fun v46 =>
    chkInt .i64 v46 fun n47 =>
    need ((0 : Int) ≤ n47 ∧ n47 ≤ n47 ∧ n47 ≤ 1099511627776 ∧ 24 ≤ 128) <|
    new h44 (.cells (repZero [.slice none] (Int.toNat n47)) false) fun i49 h48 =>
    new h48 (.cells [.slice (some ⟨i49, 0, Int.toNat n47, Int.toNat n47, none⟩), .int .i64 0, .int .i64 0, .bool false] false) fun i51 h50 =>
      ob z36 fun a52 =>
      ob (AH.cell h50 a52.1 (a52.2 + 1)) fun v53 =>
      chkInt .i64 v53 fun n54 =>
      ob z36 fun a55 =>
      ob (AH.cell h50 a55.1 (a55.2 + 2)) fun v56 =>
      chkInt .i64 v56 fun n57 =>
      flash_block_wipe (some (i51, 0)) n54 n57 h50 fun h59 =>
        ob z37 fun a60 =>
        ob (AH.cell h59 a60.1 (a60.2 + 7)) fun v61 =>
        chkSl v61 fun x62 =>
        new h59 (.cells [.ptr (some (i51, 0))] false) fun i64 h63 =>
        aNews h63 1 (.slice (some ⟨i64, 0, 1, 1, none⟩)) fun x65 n66 =>
        guardR (x65.all AV.scal && true && true) <|
        aAppend h63 1 8 x62 x65 n66 fun s67 h68 =>
        ob z37 fun a69 =>
        ob (AH.puts h68 a69.1 (a69.2 + 7) [.slice s67]) fun h70 =>
          flash_New_L0 z36 z37 z38 (IntKind.wrap .i64 (z39 + 1)) h70 K0
  ) (
    guardR (AV.beq (.ptr z37) (.ptr z37)) <|
    K0 h44
  )
theorem flash_New_L0.eq (z36 : Option (Nat × Nat)) (z37 : Option (Nat × Nat)) (z38 : Int) (z39 : Int) (h44 : AH) (K0 : AH → Prop) : lstep PR (ACall PR M) (ALoop PR M) (M 38) (sub [true, true, true, true, false, true, false, false] c38) [.bot, .ptr z36, .bot, .bot, .bot, .ptr z37, .bot, .bot, .bot, .bot, .bot, .bot, .bot, .bot, .bot, .bot, .bot, .bot, .bot, .bot, .bot, .bot, .bot, .bot, .bot, .bot, .bot, .bot, .bot, .bot, .bot, .bot, .bot, .int .i64 z38, .int .i64 z39, .bot, .bot, .bot, .bot, .bot, .bot, .bot, .bot, .bot, .bot, .bot, .bot, .bot, .bot, .bot, .bot, .bot, .bot, .bot, .bot, .bot, .bot, .bot, .bot] h44 (fun e40 env41 h42 =>
  exCase e40 (
    False
  ) fun i43 =>
  bif i43 == 0 then (
    guardR (AV.beq (.ptr z37) (env41.getD 5 .bot)) <|
    K0 h42
  ) else (
    False
  )
  ) = flash_New_L0w z36 z37 z38 z39 h44 K0 := by kernel_rfl
theorem flash_New_L0.go {z36 : Option (Nat × Nat)} {z37 : Option (Nat × Nat)} {z38 : Int} {z39 : Int} {h44 : AH} {K0 : AH → Prop} (hh : flash_New_L0w z36 z37 z38 z39 h44 K0) : flash_New_L0 z36 z37 z38 z39 h44 K0 := step_loop' (flash_New_L0.eq z36 z37 z38 z39 h44 K0) hh
def flash_Neww (c__01 : Int) (c__12 : Int) (c__23 : Int) (c__34 : Int) (h : AH) (K : Option (Nat × Nat) → Int → AH → Prop) : Prop :=
  new h (.cells [.int .i64 c__01, .int .i64 c__12, .int .i64 c__23, .int .i64 c__34] false) fun i6 h5 =>
    ob (AH.cell h5 i6 0) fun v7 =>
    chkInt .i64 v7 fun n8 =>
    flash_within n8 2 16 h5 fun r11 h10 =>
    br r11 (
      ob (AH.cell h10 i6 1) fun v12 =>
      chkInt .i64 v12 fun n13 =>
      flash_within n13 4 16 h10 fun r16 h15 =>
        br (!r16) (
            K none 30 h15
        ) (
          ob (AH.cell h15 i6 2) fun v17 =>
          chkInt .i64 v17 fun n18 =>
          flash_within n18 64 512 h15 fun r21 h20 =>
          br (!r21) (
              K none 30 h20
          ) (
            ob (AH.cell h20 i6 3) fun v22 =>
            chkInt .i64 v22 fun n23 =>
            flash_within n23 1 1048576 h20 fun r26 h25 =>
              br (!r26) (
                K none 30 h25
              ) (
                ob (AH.cellsAt h25 i6 0 4) fun cs27 =>
                ints4 .i64 cs27 fun n28 n29 n30 n31 =>
                new h25 (.cells [.int .i64 0, .int .i64 0, .bool false, .int .i64 n28, .int .i64 n29, .int .i64 n30, .int .i64 n31, .slice none, .int .i64 0, .slice none] false) fun i33 h32 =>
                  ob (AH.cell h32 i6 0) fun v34 =>
                  chkInt .i64 v34 fun n35 =>
                    flash_New_L0 (some (i6, 0)) (some (i33, 0)) n35 0 h32
                      (fun h71 =>
                          K (some (i33, 0)) 0 h71
                      )
              )
          )
        )
    ) (
      br (!false) (
          K none 30 h10
      ) (
        ob (AH.cell h10 i6 2) fun v72 =>
        chkInt .i64 v72 fun n73 =>
        flash_within n73 64 512 h10 fun r76 h75 =>
        br (!r76) (
            K none 30 h75
        ) (
          ob (AH.cell h75 i6 3) fun v77 =>
          chkInt .i64 v77 fun n78 =>
          flash_within n78 1 1048576 h75 fun r81 h80 =>
            br (!r81) (
              K none 30 h80
            ) (
              ob (AH.cellsAt h80 i6 0 4) fun cs82 =>
              ints4 .i64 cs82 fun n83 n84 n85 n86 =>
              new h80 (.cells [.int .i64 0, .int .i64 0, .bool false, .int .i64 n83, .int .i64 n84, .int .i64 n85, .int .i64 n86, .slice none, .int .i64 0, .slice none] false) fun i88 h87 =>
                ob (AH.cell h87 i6 0) fun v89 =>
                chkInt .i64 v89 fun n90 =>
                  flash_New_L0 (some (i6, 0)) (some (i88, 0)) n90 0 h87
                    (fun h91 =>
                        K (some (i88, 0)) 0 h91
                    )
            )
        )
      )
    )
theorem flash_New.eq (c__01 : Int) (c__12 : Int) (c__23 : Int) (c__34 : Int) (h : AH) (K : Option (Nat × Nat) → Int → AH → Prop) : fstep PR (ACall PR M) (ALoop PR M) M 38 [.agg [.int .i64 c__01, .int .i64 c__12, .int .i64 c__23, .int .i64 c__34]] h (fun v1 h2 =>
  asTup v1 fun l3 =>
  asCons l3 fun v4 l5 =>
  chkPtr v4 fun p6 =>
  asCons l5 fun v7 l8 =>
  chkInt .i64 v7 fun n9 =>
  asNil l8 <|
  K p6 n9 h2
  ) = flash_Neww c__01 c__12 c__23 c__34 h K := by kernel_rfl
theorem flash_New.go {c__01 : Int} {c__12 : Int} {c__23 : Int} {c__34 : Int} {h : AH} {K : Option (Nat × Nat) → Int → AH → Prop} (hh : flash_Neww c__01 c__12 c__23 c__34 h K) : flash_New c__01 c__12 c__23 c__34 h K := step_call (flash_New.eq c__01 c__12 c__23 c__34 h K) hh

/-! depot/region.Open -/
noncomputable def c40 : Code := bodyOf PR.funcs[40]?
def region_Openw (f_1 : Option (Nat × Nat)) (block_2 : Int) (epoch_3 : Int) (h : AH) (K : Int → AH → Prop) : Prop :=
  region_program f_1 block_2 1 0 1 epoch_3 0 none h fun r6 h5 =>
    K r6 h5
theorem region_Open.eq (f_1 : Option (Nat × Nat)) (block_2 : Int) (epoch_3 : Int) (h : AH) (K : Int → AH → Prop) : fstep PR (ACall PR M) (ALoop PR M) M 40 [.ptr f_1, .int .i64 block_2, .int .i64 epoch_3] h (fun v1 h2 =>
  chkInt .i64 v1 fun n3 =>
  K n3 h2
  ) = region_Openw f_1 block_2 epoch_3 h K := by kernel_rfl
theorem region_Open.go {f_1 : Option (Nat × Nat)} {block_2 : Int} {epoch_3 : Int} {h : AH} {K : Int → AH → Prop} (hh : region_Openw f_1 block_2 epoch_3 h K) : region_Open f_1 block_2 epoch_3 h K := step_call (region_Open.eq f_1 block_2 epoch_3 h K) hh

/-! depot/region.Append -/
noncomputable def c41 : Code := bodyOf PR.funcs[41]?
def region_Append_L0 (z10 : Option (Nat × Nat)) (z11 : Int) (z12 : Option (Nat × Nat)) (z13 : Option Sl) (z14 : Int) (z15 : Int) (h21 : AH) (Kr : AV → AH → Prop) (K0 : AV → AH → Prop) : Prop := ALoop PR M (M 41) (sub [true, true, true, false, true, false, false] c41) [.ptr z10, .int .i64 z11, .bot, .bot, .bot, .bot, .bot, .bot, .bot, .bot, .bot, .bot, .bot, .ptr z12, .bot, .bot, .bot, .bot, .bot, .bot, .bot, .bot, .bot, .bot, .bot, .bot, .slice z13, .int .i64 z14, .int .i64 z15, .bot, .bot, .bot, .bot, .bot, .bot, .bot, .bot, .bot, .bot, .bot, .bot, .bot, .bot, .bot, .bot, .bot, .bot, .bot] h21 fun e16 env17 h18 =>
  exCase e16 (
    Kr (env17.getD 12 .bot) h18
  ) fun i19 =>
  bif i19 == 0 then (
    K0 (env17.getD 12 .bot) h18
  ) else (
    False
  )
def region_Append_L0w (z10 : Option (Nat × Nat)) (z11 : Int) (z12 : Option (Nat × Nat)) (z13 : Option Sl) (z14 : Int) (z15 : Int) (h21 : AH) (Kr : AV → AH → Prop) (K0 : AV → AH → Prop) : Prop :=
  br (decide (z15 < z14)) (
    ob z13 fun s22 =>
    need ((0 : Int) ≤ z15 ∧ z15 < ((s22.len : Nat) : Int)) <|
    ob (AH.cell h21 s22.id (s22.off + Int.toNat z15 * 1)) fun v23 =>
    chkSl v23 fun x24 =>
      ob z12 fun a25 =>
      ob (AH.puts h21 a25.1 (a25.2 + 1) [.int .i64 z15]) fun h26 =>
        ob z12 fun a27 =>
        ob (AH.cellsAt h26 a27.1 a27.2 5) fun cs28 =>
        ints5 .i64 cs28 fun n29 n30 n31 n32 n33 =>
        region_program z10 z11 n29 n30 n31 n32 n33 x24 h26 fun r36 h35 =>
          br (r36 != 0) (
            Kr (.int .i64 r36) h35
          ) (
            ob z12 fun a37 =>
            ob (AH.cell h35 a37.1 (a37.2 + 4)) fun v38 =>
            chkInt .i64 v38 fun n39 =>
            ob z12 fun a40 =>
            ob (AH.puts h35 a40.1 (a40.2 + 4) [.int .i64 (IntKind.wrap .i64 (n39 + 1))]) fun h41 =>
              region_Append_L0 z10 z11 z12 z13 z14 (IntKind.wrap .i64 (z15 + 1)) h41 Kr K0
          )
  ) (
    K0 .bot h21
  )
theorem region_Append_L0.eq (z10 : Option (Nat × Nat)) (z11 : Int) (z12 : Option (Nat × Nat)) (z13 : Option Sl) (z14 : Int) (z15 : Int) (h21 : AH) (Kr : AV → AH → Prop) (K0 : AV → AH → Prop) : lstep PR (ACall PR M) (ALoop PR M) (M 41) (sub [true, true, true, false, true, false, false] c41) [.ptr z10, .int .i64 z11, .bot, .bot, .bot, .bot, .bot, .bot, .bot, .bot, .bot, .bot, .bot, .ptr z12, .bot, .bot, .bot, .bot, .bot, .bot, .bot, .bot, .bot, .bot, .bot, .bot, .slice z13, .int .i64 z14, .int .i64 z15, .bot, .bot, .bot, .bot, .bot, .bot, .bot, .bot, .bot, .bot, .bot, .bot, .bot, .bot, .bot, .bot, .bot, .bot, .bot] h21 (fun e16 env17 h18 =>
  exCase e16 (
    Kr (env17.getD 12 .bot) h18
  ) fun i19 =>
  bif i19 == 0 then (
    K0 (env17.getD 12 .bot) h18
  ) else (
    False
  )
  ) = region_Append_L0w z10 z11 z12 z13 z14 z15 h21 Kr K0 := by kernel_rfl
theorem region_Append_L0.go {z10 : Option (Nat × Nat)} {z11 : Int} {z12 : Option (Nat × Nat)} {z13 : Option Sl} {z14 : Int} {z15 : Int} {h21 : AH} {Kr : AV → AH → Prop} {K0 : AV → AH → Prop} (hh : region_Append_L0w z10 z11 z12 z13 z14 z15 h21 Kr K0) : region_Append_L0 z10 z11 z12 z13 z14 z15 h21 Kr K0 := step_loop' (region_Append_L0.eq z10 z11 z12 z13 z14 z15 h21 Kr K0) hh
def region_Appendw (f_1 : Option (Nat × Nat)) (block_2 : Int) (epoch_3 : Int) (at_4 : Int) (kind_5 : Int) (parts_6 : Option Sl) (h : AH) (K : Int → AH → Prop) : Prop :=
    br (((lenO parts_6 : Nat) : Int) == 0) (
      K 2 h
    ) (
      new h (.cells [.int .i64 0, .int .i64 0, .int .i64 0, .int .i64 0, .int .i64 0] false) fun i8 h7 =>
      ob (AH.puts h7 i8 0 [.int .i64 kind_5, .int .i64 0, .int .i64 ((lenO parts_6 : Nat) : Int), .int .i64 epoch_3, .int .i64 at_4]) fun h9 =>
        region_Append_L0 f_1 block_2 (some (i8, 0)) parts_6 ((lenO parts_6 : Nat) : Int) 0 h9
          (fun u43 h42 =>
            chkInt .i64 u43 fun n44 =>
            K n44 h42
          )
          (fun u46 h45 =>
              K 0 h45
          )
    )
theorem region_Append.eq (f_1 : Option (Nat × Nat)) (block_2 : Int) (epoch_3 : Int) (at_4 : Int) (kind_5 : Int) (parts_6 : Option Sl) (h : AH) (K : Int → AH → Prop) : fstep PR (ACall PR M) (ALoop PR M) M 41 [.ptr f_1, .int .i64 block_2, .int .i64 epoch_3, .int .i64 at_4, .int .i64 kind_5, .slice parts_6] h (fun v1 h2 =>
  chkInt .i64 v1 fun n3 =>
  K n3 h2
  ) = region_Appendw f_1 block_2 epoch_3 at_4 kind_5 parts_6 h K := by kernel_rfl
theorem region_Append.go {f_1 : Option (Nat × Nat)} {block_2 : Int} {epoch_3 : Int} {at_4 : Int} {kind_5 : Int} {parts_6 : Option Sl} {h : AH} {K : Int → AH → Prop} (hh : region_Appendw f_1 block_2 epoch_3 at_4 kind_5 parts_6 h K) : region_Append f_1 block_2 epoch_3 at_4 kind_5 parts_6 h K := step_call (region_Append.eq f_1 block_2 epoch_3 at_4 kind_5 parts_6 h K) hh

/-! depot/region.Seal -/
noncomputable def c43 : Code := bodyOf PR.funcs[43]?
def region_Seal_L0 (z6 : Option (Nat × Nat)) (z7 : Int) (z8 : Int) (z9 : Int) (z10 : Option Sl) (z11 : Option Sl) (z12 : Int) (z13 : Int) (h22 : AH) (Kr : AV → Option Sl → AH → Prop) (K0 : AV → Option Sl → AH → Prop) : Prop := ALoop PR M (M 43) (sub [true, true, false, true, false, false] c43) [.ptr z6, .int .i64 z7, .int .i64 z8, .int .i64 z9, .bot, .bot, .bot, .bot, .bot, .bot, .bot, .slice z10, .bot, .bot, .bot, .bot, .slice z11, .int .i64 z12, .int .i64 z13, .bot, .bot, .bot, .bot, .bot, .bot, .bot, .bot, .bot, .bot, .bot, .bot, .bot, .bot, .bot, .bot, .bot, .bot, .bot, .bot, .bot, .bot, .bot, .bot, .bot, .bot] h22 fun e14 env15 h16 =>
  exCase e14 (
    guardR (AV.beq (.ptr z6) (env15.getD 0 .bot)) <|
    guardR (AV.beq (.int .i64 z7) (env15.getD 1 .bot)) <|
    guardR (AV.beq (.int .i64 z8) (env15.getD 2 .bot)) <|
    guardR (AV.beq (.int .i64 z9) (env15.getD 3 .bot)) <|
    chkSl (env15.getD 11 .bot) fun u18 =>
    Kr (env15.getD 10 .bot) u18 h16
  ) fun i17 =>
  bif i17 == 0 then (
    guardR (AV.beq (.ptr z6) (env15.getD 0 .bot)) <|
    guardR (AV.beq (.int .i64 z7) (env15.getD 1 .bot)) <|
    guardR (AV.beq (.int .i64 z8) (env15.getD 2 .bot)) <|
    guardR (AV.beq (.int .i64 z9) (env15.getD 3 .bot)) <|
    chkSl (env15.getD 11 .bot) fun u19 =>
    K0 (env15.getD 10 .bot) u19 h16
  ) else (
    False
  )
def region_Seal_L0w (z6 : Option (Nat × Nat)) (z7 : Int) (z8 : Int) (z9 : Int) (z10 : Option Sl) (z11 : Option Sl) (z12 : Int) (z13 : Int) (h22 : AH) (Kr : AV → Option Sl → AH → Prop) (K0 : AV → Option Sl → AH → Prop) : Prop :=
  br (decide (z13 < z12)) (
    ob z11 fun s23 =>
    need ((0 : Int) ≤ z13 ∧ z13 < ((s23.len : Nat) : Int)) <|
    ob (AH.cellsAt h22 s23.id (s23.off + Int.toNat z13 * 3) 3) fun cs24 =>
    ints3 .i64 cs24 fun n25 n26 n27 =>
    new h22 (.cells [.int .i64 0, .int .i64 0, .int .i64 0] false) fun i29 h28 =>
    ob (AH.puts h28 i29 0 [.int .i64 n25, .int .i64 n26, .int .i64 n27]) fun h30 =>
      ob (AH.cell h30 i29 0) fun v31 =>
      chkInt .i64 v31 fun n32 =>
      ob (AH.cell h30 i29 1) fun v33 =>
      chkInt .i64 v33 fun n34 =>
      ob (AH.cell h30 i29 2) fun v35 =>
      chkInt .i64 v35 fun n36 =>
      new h30 (.cells [.int .i64 n32, .int .i64 n34, .int .i64 n36] false) fun i38 h37 =>
      region_bytes z10 (some ⟨i38, 0, 3, 3, none⟩) h37 fun r_041 r_142 h40 =>
        br (!r_142) (
          guardR (AV.beq (.ptr z6) (.ptr z6)) <|
          guardR (AV.beq (.int .i64 z7) (.int .i64 z7)) <|
          guardR (AV.beq (.int .i64 z8) (.int .i64 z8)) <|
          guardR (AV.beq (.int .i64 z9) (.int .i64 z9)) <|
          Kr (.int .i64 3) z10 h40
        ) (
            region_Seal_L0 z6 z7 z8 z9 r_041 z11 z12 (IntKind.wrap .i64 (z13 + 1)) h40 Kr K0
        )
  ) (
    guardR (AV.beq (.ptr z6) (.ptr z6)) <|
    guardR (AV.beq (.int .i64 z7) (.int .i64 z7)) <|
    guardR (AV.beq (.int .i64 z8) (.int .i64 z8)) <|
    guardR (AV.beq (.int .i64 z9) (.int .i64 z9)) <|
    K0 .bot z10 h22
  )
theorem region_Seal_L0.eq (z6 : Option (Nat × Nat)) (z7 : Int) (z8 : Int) (z9 : Int) (z10 : Option Sl) (z11 : Option Sl) (z12 : Int) (z13 : Int) (h22 : AH) (Kr : AV → Option Sl → AH → Prop) (K0 : AV → Option Sl → AH → Prop) : lstep PR (ACall PR M) (ALoop PR M) (M 43) (sub [true, true, false, true, false, false] c43) [.ptr z6, .int .i64 z7, .int .i64 z8, .int .i64 z9, .bot, .bot, .bot, .bot, .bot, .bot, .bot, .slice z10, .bot, .bot, .bot, .bot, .slice z11, .int .i64 z12, .int .i64 z13, .bot, .bot, .bot, .bot, .bot, .bot, .bot, .bot, .bot, .bot, .bot, .bot, .bot, .bot, .bot, .bot, .bot, .bot, .bot, .bot, .bot, .bot, .bot, .bot, .bot, .bot] h22 (fun e14 env15 h16 =>
  exCase e14 (
    guardR (AV.beq (.ptr z6) (env15.getD 0 .bot)) <|
    guardR (AV.beq (.int .i64 z7) (env15.getD 1 .bot)) <|
    guardR (AV.beq (.int .i64 z8) (env15.getD 2 .bot)) <|
    guardR (AV.beq (.int .i64 z9) (env15.getD 3 .bot)) <|
    chkSl (env15.getD 11 .bot) fun u18 =>
    Kr (env15.getD 10 .bot) u18 h16
  ) fun i17 =>
  bif i17 == 0 then (
    guardR (AV.beq (.ptr z6) (env15.getD 0 .bot)) <|
    guardR (AV.beq (.int .i64 z7) (env15.getD 1 .bot)) <|
    guardR (AV.beq (.int .i64 z8) (env15.getD 2 .bot)) <|
    guardR (AV.beq (.int .i64 z9) (env15.getD 3 .bot)) <|
    chkSl (env15.getD 11 .bot) fun u19 =>
    K0 (env15.getD 10 .bot) u19 h16
  ) else (
    False
  )
  ) = region_Seal_L0w z6 z7 z8 z9 z10 z11 z12 z13 h22 Kr K0 := by kernel_rfl
theorem region_Seal_L0.go {z6 : Option (Nat × Nat)} {z7 : Int} {z8 : Int} {z9 : Int} {z10 : Option Sl} {z11 : Option Sl} {z12 : Int} {z13 : Int} {h22 : AH} {Kr : AV → Option Sl → AH → Prop} {K0 : AV → Option Sl → AH → Prop} (hh : region_Seal_L0w z6 z7 z8 z9 z10 z11 z12 z13 h22 Kr K0) : region_Seal_L0 z6 z7 z8 z9 z10 z11 z12 z13 h22 Kr K0 := step_loop' (region_Seal_L0.eq z6 z7 z8 z9 z10 z11 z12 z13 h22 Kr K0) hh
def region_Sealw (f_1 : Option (Nat × Nat)) (block_2 : Int) (epoch_3 : Int) (at_4 : Int) (l_5 : Option Sl) (h : AH) (K : Int → AH → Prop) : Prop :=
    region_Seal_L0 f_1 block_2 epoch_3 at_4 none l_5 ((lenO l_5 : Nat) : Int) 0 h
      (fun u44 u45 h43 =>
        chkInt .i64 u44 fun n46 =>
        K n46 h43
      )
      (fun u48 u49 h47 =>
        region_program f_1 block_2 4 0 1 epoch_3 at_4 u49 h47 fun r52 h51 =>
          K r52 h51
      )
theorem region_Seal.eq (f_1 : Option (Nat × Nat)) (block_2 : Int) (epoch_3 : Int) (at_4 : Int) (l_5 : Option Sl) (h : AH) (K : Int → AH → Prop) : fstep PR (ACall PR M) (ALoop PR M) M 43 [.ptr f_1, .int .i64 block_2, .int .i64 epoch_3, .int .i64 at_4, .slice l_5] h (fun v1 h2 =>
  chkInt .i64 v1 fun n3 =>
  K n3 h2
  ) = region_Sealw f_1 block_2 epoch_3 at_4 l_5 h K := by kernel_rfl
theorem region_Seal.go {f_1 : Option (Nat × Nat)} {block_2 : Int} {epoch_3 : Int} {at_4 : Int} {l_5 : Option Sl} {h : AH} {K : Int → AH → Prop} (hh : region_Sealw f_1 block_2 epoch_3 at_4 l_5 h K) : region_Seal f_1 block_2 epoch_3 at_4 l_5 h K := step_call (region_Seal.eq f_1 block_2 epoch_3 at_4 l_5 h K) hh

/-! depot/region.Load -/
noncomputable def c46 : Code := bodyOf PR.funcs[46]?
def region_Load_L0 (z9 : Option (Nat × Nat)) (z10 : Int) (z11 : Option Sl) (z12 : Int) (z13 : Int) (h23 : AH) (Kr : AV → AV → Option Sl → AH → Prop) (K0 : AV → AV → Option Sl → AH → Prop) : Prop := ALoop PR M (M 46) (sub [true, true, true, false, true, false, false] c46) [.ptr z9, .int .i64 z10, .bot, .bot, .bot, .bot, .slice z11, .bot, .bot, .bot, .bot, .bot, .bot, .bot, .int .i64 z12, .int .i64 z13, .bot, .bot, .bot, .bot, .bot, .bot, .bot, .bot, .bot, .bot, .bot, .bot, .bot, .bot, .bot, .bot, .bot, .bot] h23 fun e14 env15 h16 =>
  exCase e14 (
    chkSl (env15.getD 6 .bot) fun u18 =>
    Kr (env15.getD 4 .bot) (env15.getD 5 .bot) u18 h16
  ) fun i17 =>
  bif i17 == 0 then (
    chkSl (env15.getD 6 .bot) fun u19 =>
    K0 (env15.getD 4 .bot) (env15.getD 5 .bot) u19 h16
  ) else (
    False
  )
def region_Load_L0w (z9 : Option (Nat × Nat)) (z10 : Int) (z11 : Option Sl) (z12 : Int) (z13 : Int) (h23 : AH) (Kr : AV → AV → Option Sl → AH → Prop) (K0 : AV → AV → Option Sl → AH → Prop) : Prop :=
  br (decide (z13 < z12)) (
      flash_Flash_Read z9 z10 z13 h23 fun r_026 r_127 h25 =>
        br (r_127 != 0) (
          Kr (.slice none) (.int .i64 r_127) z11 h25
        ) (
          new h25 (.cells [.slice r_026] false) fun i29 h28 =>
          aNews h28 1 (.slice (some ⟨i29, 0, 1, 1, none⟩)) fun x30 n31 =>
          guardR (x30.all AV.scal && true && true) <|
          aAppend h28 1 24 z11 x30 n31 fun s32 h33 =>
            region_Load_L0 z9 z10 s32 z12 (IntKind.wrap .i64 (z13 + 1)) h33 Kr K0
        )
  ) (
    K0 .bot .bot z11 h23
  )
theorem region_Load_L0.eq (z9 : Option (Nat × Nat)) (z10 : Int) (z11 : Option Sl) (z12 : Int) (z13 : Int) (h23 : AH) (Kr : AV → AV → Option Sl → AH → Prop) (K0 : AV → AV → Option Sl → AH → Prop) : lstep PR (ACall PR M) (ALoop PR M) (M 46) (sub [true, true, true, false, true, false, false] c46) [.ptr z9, .int .i64 z10, .bot, .bot, .bot, .bot, .slice z11, .bot, .bot, .bot, .bot, .bot, .bot, .bot, .int .i64 z12, .int .i64 z13, .bot, .bot, .bot, .bot, .bot, .bot, .bot, .bot, .bot, .bot, .bot, .bot, .bot, .bot, .bot, .bot, .bot, .bot] h23 (fun e14 env15 h16 =>
  exCase e14 (
    chkSl (env15.getD 6 .bot) fun u18 =>
    Kr (env15.getD 4 .bot) (env15.getD 5 .bot) u18 h16
  ) fun i17 =>
  bif i17 == 0 then (
    chkSl (env15.getD 6 .bot) fun u19 =>
    K0 (env15.getD 4 .bot) (env15.getD 5 .bot) u19 h16
  ) else (
    False
  )
  ) = region_Load_L0w z9 z10 z11 z12 z13 h23 Kr K0 := by kernel_rfl
theorem region_Load_L0.go {z9 : Option (Nat × Nat)} {z10 : Int} {z11 : Option Sl} {z12 : Int} {z13 : Int} {h23 : AH} {Kr : AV → AV → Option Sl → AH → Prop} {K0 : AV → AV → Option Sl → AH → Prop} (hh : region_Load_L0w z9 z10 z11 z12 z13 h23 Kr K0) : region_Load_L0 z9 z10 z11 z12 z13 h23 Kr K0 := step_loop' (region_Load_L0.eq z9 z10 z11 z12 z13 h23 Kr K0) hh
def region_Loadw (f_1 : Option (Nat × Nat)) (block_2 : Int) (h : AH) (K : Option Sl → Int → AH → Prop) : Prop :=
    br (Option.isNone f_1) (
      K none 1 h
    ) (
        flash_Flash_Config f_1 h fun r_05 r_16 r_27 r_38 h4 =>
          region_Load_L0 f_1 block_2 none r_16 0 h4
            (fun u35 u36 u37 h34 =>
              chkSl u35 fun x38 =>
              chkInt .i64 u36 fun n39 =>
              K x38 n39 h34
            )
            (fun u41 u42 u43 h40 =>
                K u43 0 h40
            )
    )
theorem region_Load.eq (f_1 : Option (Nat × Nat)) (block_2 : Int) (h : AH) (K : Option Sl → Int → AH → Prop) : fstep PR (ACall PR M) (ALoop PR M) M 46 [.ptr f_1, .int .i64 block_2] h (fun v1 h2 =>
  asTup v1 fun l3 =>
  asCons l3 fun v4 l5 =>
  chkSl v4 fun x6 =>
  asCons l5 fun v7 l8 =>
  chkInt .i64 v7 fun n9 =>
  asNil l8 <|
  K x6 n9 h2
  ) = region_Loadw f_1 block_2 h K := by kernel_rfl
theorem region_Load.go {f_1 : Option (Nat × Nat)} {block_2 : Int} {h : AH} {K : Option Sl → Int → AH → Prop} (hh : region_Loadw f_1 block_2 h K) : region_Load f_1 block_2 h K := step_call (region_Load.eq f_1 block_2 h K) hh

/-! depot/depotlaw25.device -/
noncomputable def c47 : Code := bodyOf PR.funcs[47]?
def depotlaw25_devicew  (h : AH) (K : Int → Int → Int → Int → AH → Prop) : Prop :=
  new h (.cells [.int .i64 0, .int .i64 0, .int .i64 0, .int .i64 0] false) fun i2 h1 =>
    ob (AH.puts h1 i2 0 [.int .i64 2, .int .i64 8, .int .i64 64, .int .i64 9]) fun h3 =>
      ob (AH.cellsAt h3 i2 0 4) fun cs4 =>
      ints4 .i64 cs4 fun n5 n6 n7 n8 =>
      K n5 n6 n7 n8 h3
theorem depotlaw25_device.eq  (h : AH) (K : Int → Int → Int → Int → AH → Prop) : fstep PR (ACall PR M) (ALoop PR M) M 47 [] h (fun v1 h2 =>
  asAgg v1 fun l3 =>
  ints4 .i64 l3 fun n4 n5 n6 n7 =>
  K n4 n5 n6 n7 h2
  ) = depotlaw25_devicew  h K := by kernel_rfl
theorem depotlaw25_device.go  {h : AH} {K : Int → Int → Int → Int → AH → Prop} (hh : depotlaw25_devicew  h K) : depotlaw25_device  h K := step_call (depotlaw25_device.eq  h K) hh

/-! depot/region.look -/
noncomputable def c57 : Code := bodyOf PR.funcs[57]?
def region_look_L0 (z4 : Option (Nat × Nat)) (z5 : Option Sl) (z6 : Int) (z7 : Int) (h12 : AH) (K0 : AH → Prop) : Prop := ALoop PR M (M 57) (sub [true, true, false, true, false, false] c57) [.bot, .bot, .bot, .ptr z4, .bot, .bot, .bot, .bot, .bot, .bot, .bot, .bot, .bot, .bot, .bot, .slice z5, .int .i64 z6, .int .i64 z7, .bot, .bot, .bot, .bot, .bot, .bot, .bot, .bot, .bot, .bot, .bot, .bot, .bot, .bot, .bot, .bot, .bot, .bot, .bot, .bot, .bot, .bot, .bot, .bot, .bot, .bot, .bot, .bot, .bot, .bot, .bot, .bot, .bot] h12 fun e8 env9 h10 =>
  exCase e8 (
    False
  ) fun i11 =>
  bif i11 == 0 then (
    guardR (AV.beq (.ptr z4) (env9.getD 3 .bot)) <|
    K0 h10
  ) else (
    False
  )
def region_look_L0w (z4 : Option (Nat × Nat)) (z5 : Option Sl) (z6 : Int) (z7 : Int) (h12 : AH) (K0 : AH → Prop) : Prop :=
  br (decide (z7 < z6)) (
    ob z5 fun s13 =>
    need ((0 : Int) ≤ z7 ∧ z7 < ((s13.len : Nat) : Int)) <|
    ob (AH.cell h12 s13.id (s13.off + Int.toNat z7 * 1)) fun v14 =>
    chkSl v14 fun x15 =>
      page_Parse x15 h12 fun r_0_018 r_0_119 r_0_220 r_0_321 r_0_422 r_123 r_224 h17 =>
      new h17 (.cells [.int .i64 0, .int .i64 0, .int .i64 0, .int .i64 0, .int .i64 0] false) fun i26 h25 =>
      ob (AH.puts h25 i26 0 [.int .i64 r_0_018, .int .i64 r_0_119, .int .i64 r_0_220, .int .i64 r_0_321, .int .i64 r_0_422]) fun h27 =>
        hold h27 1 fun h28 =>
        ob z4 fun a29 =>
        ob (AH.cell h28 a29.1 a29.2) fun v30 =>
        chkSl v30 fun x31 =>
        ob (AH.cellsAt h28 i26 0 5) fun cs32 =>
        ints5 .i64 cs32 fun n33 n34 n35 n36 n37 =>
        birth h28 (h27.length + 0) (.cells [.int .i64 n33, .int .i64 n34, .int .i64 n35, .int .i64 n36, .int .i64 n37, .slice r_123, .bool (r_224 == 0)] false) fun h38 =>
        aNews h38 7 (.slice (some ⟨(h27.length + 0), 0, 1, 1, none⟩)) fun x39 n40 =>
        guardR (x39.all AV.scal && true && true) <|
        aAppend h38 7 72 x31 x39 n40 fun s41 h42 =>
        ob z4 fun a43 =>
        ob (AH.puts h42 a43.1 a43.2 [.slice s41]) fun h44 =>
          page_Blank x15 h44 fun r47 h46 =>
            br (!r47) (
              ob z4 fun a48 =>
              ob (AH.puts h46 a48.1 (a48.2 + 2) [.int .i64 z7]) fun h49 =>
                region_look_L0 z4 z5 z6 (IntKind.wrap .i64 (z7 + 1)) h49 K0
            ) (
              region_look_L0 z4 z5 z6 (IntKind.wrap .i64 (z7 + 1)) h46 K0
            )
  ) (
    guardR (AV.beq (.ptr z4) (.ptr z4)) <|
    K0 h12
  )
theorem region_look_L0.eq (z4 : Option (Nat × Nat)) (z5 : Option Sl) (z6 : Int) (z7 : Int) (h12 : AH) (K0 : AH → Prop) : lstep PR (ACall PR M) (ALoop PR M) (M 57) (sub [true, true, false, true, false, false] c57) [.bot, .bot, .bot, .ptr z4, .bot, .bot, .bot, .bot, .bot, .bot, .bot, .bot, .bot, .bot, .bot, .slice z5, .int .i64 z6, .int .i64 z7, .bot, .bot, .bot, .bot, .bot, .bot, .bot, .bot, .bot, .bot, .bot, .bot, .bot, .bot, .bot, .bot, .bot, .bot, .bot, .bot, .bot, .bot, .bot, .bot, .bot, .bot, .bot, .bot, .bot, .bot, .bot, .bot, .bot] h12 (fun e8 env9 h10 =>
  exCase e8 (
    False
  ) fun i11 =>
  bif i11 == 0 then (
    guardR (AV.beq (.ptr z4) (env9.getD 3 .bot)) <|
    K0 h10
  ) else (
    False
  )
  ) = region_look_L0w z4 z5 z6 z7 h12 K0 := by kernel_rfl
theorem region_look_L0.go {z4 : Option (Nat × Nat)} {z5 : Option Sl} {z6 : Int} {z7 : Int} {h12 : AH} {K0 : AH → Prop} (hh : region_look_L0w z4 z5 z6 z7 h12 K0) : region_look_L0 z4 z5 z6 z7 h12 K0 := step_loop' (region_look_L0.eq z4 z5 z6 z7 h12 K0) hh
def region_lookw (pages_1 : Option Sl) (h : AH) (K : Option (Nat × Nat) → AH → Prop) : Prop :=
  new h (.cells [.slice none, .int .i64 0, .int .i64 0] false) fun i3 h2 =>
    need ((0 : Int) ≤ (if (16 : Int) < ((lenO pages_1 : Nat) : Int) then 16 else ((lenO pages_1 : Nat) : Int)) ∧ (if (16 : Int) < ((lenO pages_1 : Nat) : Int) then 16 else ((lenO pages_1 : Nat) : Int)) ≤ ((lenO pages_1 : Nat) : Int)) <|
    guardR (cutOkO 1 pages_1) <|
      region_look_L0 (some (i3, 0)) (cutO 1 0 (Int.toNat (if (16 : Int) < ((lenO pages_1 : Nat) : Int) then 16 else ((lenO pages_1 : Nat) : Int))) pages_1) ((lenO (cutO 1 0 (Int.toNat (if (16 : Int) < ((lenO pages_1 : Nat) : Int) then 16 else ((lenO pages_1 : Nat) : Int))) pages_1) : Nat) : Int) 0 h2
        (fun h50 =>
            K (some (i3, 0)) h50
        )
theorem region_look.eq (pages_1 : Option Sl) (h : AH) (K : Option (Nat × Nat) → AH → Prop) : fstep PR (ACall PR M) (ALoop PR M) M 57 [.slice pages_1] h (fun v1 h2 =>
  chkPtr v1 fun p3 =>
  K p3 h2
  ) = region_lookw pages_1 h K := by kernel_rfl
theorem region_look.go {pages_1 : Option Sl} {h : AH} {K : Option (Nat × Nat) → AH → Prop} (hh : region_lookw pages_1 h K) : region_look pages_1 h K := step_call (region_look.eq pages_1 h K) hh

/-! (*depot/region.scanner).says -/
noncomputable def c58 : Code := bodyOf PR.funcs[58]?
def region_scanner_saysw (s_1 : Option (Nat × Nat)) (at_2 : Int) (h__03 : Int) (h__14 : Int) (h__25 : Int) (h__36 : Int) (h__47 : Int) (h : AH) (K : Option Sl → Bool → AH → Prop) : Prop :=
  new h (.cells [.int .i64 h__03, .int .i64 h__14, .int .i64 h__25, .int .i64 h__36, .int .i64 h__47] false) fun i9 h8 =>
    ob s_1 fun a10 =>
    ob (AH.cell h8 a10.1 (a10.2 + 1)) fun v11 =>
    chkInt .i64 v11 fun n12 =>
    ob (AH.puts h8 i9 3 [.int .i64 n12]) fun h13 =>
    ob (AH.puts h13 i9 4 [.int .i64 at_2]) fun h14 =>
      hold h14 0 fun h15 =>
      br (decide (at_2 < 0)) (
          K none false h15
      ) (
        ob s_1 fun a16 =>
        ob (AH.cell h15 a16.1 a16.2) fun v17 =>
        chkSl v17 fun x18 =>
        br (decide (at_2 ≥ ((lenO x18 : Nat) : Int))) (
            K none false h15
        ) (
          ob s_1 fun a19 =>
          ob (AH.cell h15 a19.1 a19.2) fun v20 =>
          chkSl v20 fun x21 =>
          ob x21 fun s22 =>
          need ((0 : Int) ≤ at_2 ∧ at_2 < ((s22.len : Nat) : Int)) <|
          ob (AH.cell h15 s22.id (s22.off + Int.toNat at_2 * 7 + 6)) fun v23 =>
          chkBool v23 fun b24 =>
          br (!b24) (
              K none false h15
          ) (
            ob s_1 fun a25 =>
            ob (AH.cell h15 a25.1 a25.2) fun v26 =>
            chkSl v26 fun x27 =>
            ob x27 fun s28 =>
            need ((0 : Int) ≤ at_2 ∧ at_2 < ((s28.len : Nat) : Int)) <|
            ob (AH.cellsAt h15 s28.id (s28.off + Int.toNat at_2 * 7) 5) fun cs29 =>
            ints5 .i64 cs29 fun n30 n31 n32 n33 n34 =>
            ob (AH.cellsAt h15 i9 0 5) fun cs35 =>
            ints5 .i64 cs35 fun n36 n37 n38 n39 n40 =>
              br (!((n30 == n36) && ((n31 == n37) && ((n32 == n38) && ((n33 == n39) && ((n34 == n40) && true)))))) (
                K none false h15
              ) (
                ob s_1 fun a42 =>
                ob (AH.cell h15 a42.1 a42.2) fun v43 =>
                chkSl v43 fun x44 =>
                ob x44 fun s45 =>
                need ((0 : Int) ≤ at_2 ∧ at_2 < ((s45.len : Nat) : Int)) <|
                ob (AH.cell h15 s45.id (s45.off + Int.toNat at_2 * 7 + 5)) fun v46 =>
                chkSl v46 fun x47 =>
                  K x47 true h15
              )
          )
        )
      )
theorem region_scanner_says.eq (s_1 : Option (Nat × Nat)) (at_2 : Int) (h__03 : Int) (h__14 : Int) (h__25 : Int) (h__36 : Int) (h__47 : Int) (h : AH) (K : Option Sl → Bool → AH → Prop) : fstep PR (ACall PR M) (ALoop PR M) M 58 [.ptr s_1, .int .i64 at_2, .agg [.int .i64 h__03, .int .i64 h__14, .int .i64 h__25, .int .i64 h__36, .int .i64 h__47]] h (fun v1 h2 =>
  asTup v1 fun l3 =>
  asCons l3 fun v4 l5 =>
  chkSl v4 fun x6 =>
  asCons l5 fun v7 l8 =>
  chkBool v7 fun b9 =>
  asNil l8 <|
  K x6 b9 h2
  ) = region_scanner_saysw s_1 at_2 h__03 h__14 h__25 h__36 h__47 h K := by kernel_rfl
theorem region_scanner_says.go {s_1 : Option (Nat × Nat)} {at_2 : Int} {h__03 : Int} {h__14 : Int} {h__25 : Int} {h__36 : Int} {h__47 : Int} {h : AH} {K : Option Sl → Bool → AH → Prop} (hh : region_scanner_saysw s_1 at_2 h__03 h__14 h__25 h__36 h__47 h K) : region_scanner_says s_1 at_2 h__03 h__14 h__25 h__36 h__47 h K := step_call (region_scanner_says.eq s_1 at_2 h__03 h__14 h__25 h__36 h__47 h K) hh

/-! (*depot/region.scanner).seal -/
noncomputable def c59 : Code := bodyOf PR.funcs[59]?
def region_scanner_seal_L0 (z9 : Option (Nat × Nat)) (z10 : Option Sl) (z11 : Option Sl) (z12 : Int) (h25 : AH) (Kr : AV → AV → Option Sl → Int → AH → Prop) (K0 : AV → AV → Option Sl → Int → AH → Prop) : Prop := ALoop PR M (M 59) (sub [true, true, true, true, true, false, false, false] c59) [.ptr z9, .bot, .bot, .bot, .slice z10, .bot, .slice z11, .int .i64 z12, .bot, .bot, .bot, .bot, .bot, .bot, .bot, .bot, .bot, .bot, .bot, .bot, .bot, .bot, .bot, .bot, .bot, .bot, .bot, .bot, .bot, .bot, .bot, .bot, .bot, .bot, .bot, .bot, .bot, .bot, .bot, .bot, .bot, .bot, .bot, .bot, .bot, .bot, .bot, .bot, .bot, .bot, .bot, .bot, .bot, .bot, .bot, .bot, .bot, .bot, .bot, .bot, .bot, .bot, .bot, .bot, .bot, .bot, .bot, .bot, .bot, .bot, .bot, .bot, .bot, .bot, .bot] h25 fun e13 env14 h15 =>
  exCase e13 (
    guardR (AV.beq (.ptr z9) (env14.getD 0 .bot)) <|
    chkSl (env14.getD 6 .bot) fun u17 =>
    chkInt .i64 (env14.getD 7 .bot) fun u18 =>
    Kr (env14.getD 2 .bot) (env14.getD 3 .bot) u17 u18 h15
  ) fun i16 =>
  bif i16 == 0 then (
    guardR (AV.beq (.ptr z9) (env14.getD 0 .bot)) <|
    chkSl (env14.getD 6 .bot) fun u19 =>
    chkInt .i64 (env14.getD 7 .bot) fun u20 =>
    K0 (env14.getD 2 .bot) (env14.getD 3 .bot) u19 u20 h15
  ) else (
    False
  )
def region_scanner_seal_L0w (z9 : Option (Nat × Nat)) (z10 : Option Sl) (z11 : Option Sl) (z12 : Int) (h25 : AH) (Kr : AV → AV → Option Sl → Int → AH → Prop) (K0 : AV → AV → Option Sl → Int → AH → Prop) : Prop :=
  br (decide (((lenO z10 : Nat) : Int) > 0)) (
    hold h25 1 fun h26 =>
    ob z10 fun s27 =>
    need ((0 : Int) ≤ 0 ∧ 0 < ((s27.len : Nat) : Int)) <|
    ob (AH.cell h26 s27.id (s27.off + Int.toNat 0 * 1)) fun v28 =>
    chkInt .u8 v28 fun n29 =>
    ob z10 fun s30 =>
    need ((0 : Int) ≤ 1 ∧ 1 < ((s30.len : Nat) : Int)) <|
    ob (AH.cell h26 s30.id (s30.off + Int.toNat 1 * 1)) fun v31 =>
    chkInt .u8 v31 fun n32 =>
    ob z10 fun s33 =>
    need ((0 : Int) ≤ 2 ∧ 2 < ((s33.len : Nat) : Int)) <|
    ob (AH.cell h26 s33.id (s33.off + Int.toNat 2 * 1)) fun v34 =>
    chkInt .u8 v34 fun n35 =>
    birth h26 (h25.length + 0) (.cells [.int .i64 0, .int .i64 0, .int .i64 0] false) fun h36 =>
    ob (AH.puts h36 (h25.length + 0) 0 [.int .i64 (IntKind.wrap .i64 n29), .int .i64 (IntKind.wrap .i64 n32), .int .i64 (IntKind.wrap .i64 n35)]) fun h37 =>
      ob (AH.cell h37 (h25.length + 0) 0) fun v38 =>
      chkInt .i64 v38 fun n39 =>
      region_item n39 h37 fun r42 h41 =>
      br (!r42) (
          guardR (AV.beq (.ptr z9) (.ptr z9)) <|
          Kr (.slice none) (.bool false) z11 z12 h41
      ) (
        ob (AH.cell h41 (h25.length + 0) 2) fun v43 =>
        chkInt .i64 v43 fun n44 =>
        br (n44 == 0) (
            guardR (AV.beq (.ptr z9) (.ptr z9)) <|
            Kr (.slice none) (.bool false) z11 z12 h41
        ) (
          ob (AH.cell h41 (h25.length + 0) 1) fun v45 =>
          chkInt .i64 v45 fun n46 =>
            br (n46 != z12) (
              guardR (AV.beq (.ptr z9) (.ptr z9)) <|
              Kr (.slice none) (.bool false) z11 z12 h41
            ) (
              ob (AH.cell h41 (h25.length + 0) 2) fun v47 =>
              chkInt .i64 v47 fun n48 =>
                ob (AH.cellsAt h41 (h25.length + 0) 0 3) fun cs49 =>
                ints3 .i64 cs49 fun n50 n51 n52 =>
                new h41 (.cells [.int .i64 n50, .int .i64 n51, .int .i64 n52] false) fun i54 h53 =>
                aNews h53 3 (.slice (some ⟨i54, 0, 1, 1, none⟩)) fun x55 n56 =>
                guardR (x55.all AV.scal && true && true) <|
                aAppend h53 3 24 z11 x55 n56 fun s57 h58 =>
                  need ((0 : Int) ≤ 3 ∧ 3 ≤ ((lenO z10 : Nat) : Int)) <|
                  guardR (cutOkO 1 z10) <|
                  region_scanner_seal_L0 z9 (cutO 1 (Int.toNat 3) (lenO z10) z10) s57 (IntKind.wrap .i64 (z12 + n48)) h58 Kr K0
            )
        )
      )
  ) (
    guardR (AV.beq (.ptr z9) (.ptr z9)) <|
    K0 .bot .bot z11 z12 h25
  )
theorem region_scanner_seal_L0.eq (z9 : Option (Nat × Nat)) (z10 : Option Sl) (z11 : Option Sl) (z12 : Int) (h25 : AH) (Kr : AV → AV → Option Sl → Int → AH → Prop) (K0 : AV → AV → Option Sl → Int → AH → Prop) : lstep PR (ACall PR M) (ALoop PR M) (M 59) (sub [true, true, true, true, true, false, false, false] c59) [.ptr z9, .bot, .bot, .bot, .slice z10, .bot, .slice z11, .int .i64 z12, .bot, .bot, .bot, .bot, .bot, .bot, .bot, .bot, .bot, .bot, .bot, .bot, .bot, .bot, .bot, .bot, .bot, .bot, .bot, .bot, .bot, .bot, .bot, .bot, .bot, .bot, .bot, .bot, .bot, .bot, .bot, .bot, .bot, .bot, .bot, .bot, .bot, .bot, .bot, .bot, .bot, .bot, .bot, .bot, .bot, .bot, .bot, .bot, .bot, .bot, .bot, .bot, .bot, .bot, .bot, .bot, .bot, .bot, .bot, .bot, .bot, .bot, .bot, .bot, .bot, .bot, .bot] h25 (fun e13 env14 h15 =>
  exCase e13 (
    guardR (AV.beq (.ptr z9) (env14.getD 0 .bot)) <|
    chkSl (env14.getD 6 .bot) fun u17 =>
    chkInt .i64 (env14.getD 7 .bot) fun u18 =>
    Kr (env14.getD 2 .bot) (env14.getD 3 .bot) u17 u18 h15
  ) fun i16 =>
  bif i16 == 0 then (
    guardR (AV.beq (.ptr z9) (env14.getD 0 .bot)) <|
    chkSl (env14.getD 6 .bot) fun u19 =>
    chkInt .i64 (env14.getD 7 .bot) fun u20 =>
    K0 (env14.getD 2 .bot) (env14.getD 3 .bot) u19 u20 h15
  ) else (
    False
  )
  ) = region_scanner_seal_L0w z9 z10 z11 z12 h25 Kr K0 := by kernel_rfl
theorem region_scanner_seal_L0.go {z9 : Option (Nat × Nat)} {z10 : Option Sl} {z11 : Option Sl} {z12 : Int} {h25 : AH} {Kr : AV → AV → Option Sl → Int → AH → Prop} {K0 : AV → AV → Option Sl → Int → AH → Prop} (hh : region_scanner_seal_L0w z9 z10 z11 z12 h25 Kr K0) : region_scanner_seal_L0 z9 z10 z11 z12 h25 Kr K0 := step_loop' (region_scanner_seal_L0.eq z9 z10 z11 z12 h25 Kr K0) hh
def region_scanner_sealw (s_1 : Option (Nat × Nat)) (h : AH) (K : Option Sl → Bool → AH → Prop) : Prop :=
  ob s_1 fun a2 =>
  ob (AH.cell h a2.1 (a2.2 + 2)) fun v3 =>
  chkInt .i64 v3 fun n4 =>
  region_scanner_says s_1 n4 4 0 1 0 0 h fun r_07 r_18 h6 =>
    br (!r_18) (
        K none false h6
    ) (
      br ((Int.tmod ((lenO r_07 : Nat) : Int) 3) != 0) (
        K none false h6
      ) (
          region_scanner_seal_L0 s_1 r_07 none 1 h6
            (fun u60 u61 u62 u63 h59 =>
              chkSl u60 fun x64 =>
              chkBool u61 fun b65 =>
              K x64 b65 h59
            )
            (fun u67 u68 u69 u70 h66 =>
              hold h66 0 fun h71 =>
              ob s_1 fun a72 =>
              ob (AH.cell h71 a72.1 (a72.2 + 2)) fun v73 =>
              chkInt .i64 v73 fun n74 =>
                K u69 (u70 == n74) h71
            )
      )
    )
theorem region_scanner_seal.eq (s_1 : Option (Nat × Nat)) (h : AH) (K : Option Sl → Bool → AH → Prop) : fstep PR (ACall PR M) (ALoop PR M) M 59 [.ptr s_1] h (fun v1 h2 =>
  asTup v1 fun l3 =>
  asCons l3 fun v4 l5 =>
  chkSl v4 fun x6 =>
  asCons l5 fun v7 l8 =>
  chkBool v7 fun b9 =>
  asNil l8 <|
  K x6 b9 h2
  ) = region_scanner_sealw s_1 h K := by kernel_rfl
theorem region_scanner_seal.go {s_1 : Option (Nat × Nat)} {h : AH} {K : Option Sl → Bool → AH → Prop} (hh : region_scanner_sealw s_1 h K) : region_scanner_seal s_1 h K := step_call (region_scanner_seal.eq s_1 h K) hh

/-! (*depot/region.scanner).each -/
noncomputable def c60 : Code := bodyOf PR.funcs[60]?
def region_scanner_each_L0 (z3 : Option (Nat × Nat)) (z4 : FuncId) (z4a : List AV) (z4c : List AV) (z5 : Option Sl) (z6 : Int) (h13 : AH) (K0 : Option Sl → AH → Prop) : Prop := ALoop PR M (M 60) (sub [true, false, true, true, false, true, false, false] c60) [.ptr z3, .fn z4 z4a z4c, .bot, .bot, .bot, .slice z5, .int .i64 z6, .bot, .bot, .bot, .bot, .bot, .bot, .bot, .bot, .bot, .bot, .bot, .bot, .bot, .bot, .bot, .bot, .bot, .bot, .bot, .bot, .bot, .bot, .bot, .bot, .bot, .bot, .bot, .bot] h13 fun e7 env8 h9 =>
  exCase e7 (
    False
  ) fun i10 =>
  bif i10 == 0 then (
    chkSl (env8.getD 5 .bot) fun u11 =>
    K0 u11 h9
  ) else (
    False
  )
def region_scanner_each_L0w (z3 : Option (Nat × Nat)) (z4 : FuncId) (z4a : List AV) (z4c : List AV) (z5 : Option Sl) (z6 : Int) (h13 : AH) (K0 : Option Sl → AH → Prop) : Prop :=
  ob z3 fun a14 =>
  ob (AH.cell h13 a14.1 (a14.2 + 2)) fun v15 =>
  chkInt .i64 v15 fun n16 =>
    br (decide (z6 ≤ n16)) (
      ACall PR M z4 (z4a ++ [.int .i64 z6] ++ z4c) h13 fun v17 h18 =>
      asTup v17 fun l19 =>
      asCons l19 fun v20 l21 =>
      asAgg v20 fun l22 =>
      ints3 .i64 l22 fun n23 n24 n25 =>
      asCons l21 fun v26 l27 =>
      chkBool v26 fun b28 =>
      asNil l27 <|
      new h18 (.cells [.int .i64 0, .int .i64 0, .int .i64 0] false) fun i30 h29 =>
      ob (AH.puts h29 i30 0 [.int .i64 n23, .int .i64 n24, .int .i64 n25]) fun h31 =>
        br (!b28) (
          region_scanner_each_L0 z3 z4 z4a z4c z5 (IntKind.wrap .i64 (z6 + 1)) h31 K0
        ) (
          ob (AH.cellsAt h31 i30 0 3) fun cs32 =>
          ints3 .i64 cs32 fun n33 n34 n35 =>
          new h31 (.cells [.int .i64 n33, .int .i64 n34, .int .i64 n35] false) fun i37 h36 =>
          aNews h36 3 (.slice (some ⟨i37, 0, 1, 1, none⟩)) fun x38 n39 =>
          guardR (x38.all AV.scal && true && true) <|
          aAppend h36 3 24 z5 x38 n39 fun s40 h41 =>
            ob (AH.cell h41 i30 2) fun v42 =>
            chkInt .i64 v42 fun n43 =>
              region_scanner_each_L0 z3 z4 z4a z4c s40 (IntKind.wrap .i64 ((IntKind.wrap .i64 (z6 + (IntKind.wrap .i64 (n43 - 1)))) + 1)) h41 K0
        )
    ) (
      K0 z5 h13
    )
theorem region_scanner_each_L0.eq (z3 : Option (Nat × Nat)) (z4 : FuncId) (z4a : List AV) (z4c : List AV) (z5 : Option Sl) (z6 : Int) (h13 : AH) (K0 : Option Sl → AH → Prop) : lstep PR (ACall PR M) (ALoop PR M) (M 60) (sub [true, false, true, true, false, true, false, false] c60) [.ptr z3, .fn z4 z4a z4c, .bot, .bot, .bot, .slice z5, .int .i64 z6, .bot, .bot, .bot, .bot, .bot, .bot, .bot, .bot, .bot, .bot, .bot, .bot, .bot, .bot, .bot, .bot, .bot, .bot, .bot, .bot, .bot, .bot, .bot, .bot, .bot, .bot, .bot, .bot] h13 (fun e7 env8 h9 =>
  exCase e7 (
    False
  ) fun i10 =>
  bif i10 == 0 then (
    chkSl (env8.getD 5 .bot) fun u11 =>
    K0 u11 h9
  ) else (
    False
  )
  ) = region_scanner_each_L0w z3 z4 z4a z4c z5 z6 h13 K0 := by kernel_rfl
theorem region_scanner_each_L0.go {z3 : Option (Nat × Nat)} {z4 : FuncId} {z4a : List AV} {z4c : List AV} {z5 : Option Sl} {z6 : Int} {h13 : AH} {K0 : Option Sl → AH → Prop} (hh : region_scanner_each_L0w z3 z4 z4a z4c z5 z6 h13 K0) : region_scanner_each_L0 z3 z4 z4a z4c z5 z6 h13 K0 := step_loop' (region_scanner_each_L0.eq z3 z4 z4a z4c z5 z6 h13 K0) hh
def region_scanner_eachw (s_1 : Option (Nat × Nat)) (find_2 : FuncId) (find_2a : List AV) (find_2c : List AV) (h : AH) (K : Option Sl → AH → Prop) : Prop :=
      region_scanner_each_L0 s_1 find_2 find_2a find_2c none 1 h
        (fun u45 h44 =>
            K u45 h44
        )
theorem region_scanner_each.eq (s_1 : Option (Nat × Nat)) (find_2 : FuncId) (find_2a : List AV) (find_2c : List AV) (h : AH) (K : Option Sl → AH → Prop) : fstep PR (ACall PR M) (ALoop PR M) M 60 [.ptr s_1, .fn find_2 find_2a find_2c] h (fun v1 h2 =>
  chkSl v1 fun x3 =>
  K x3 h2
  ) = region_scanner_eachw s_1 find_2 find_2a find_2c h K := by kernel_rfl
theorem region_scanner_each.go {s_1 : Option (Nat × Nat)} {find_2 : FuncId} {find_2a : List AV} {find_2c : List AV} {h : AH} {K : Option Sl → AH → Prop} (hh : region_scanner_eachw s_1 find_2 find_2a find_2c h K) : region_scanner_each s_1 find_2 find_2a find_2c h K := step_call (region_scanner_each.eq s_1 find_2 find_2a find_2c h K) hh

/-! (*depot/region.scanner).at -/
noncomputable def c61 : Code := bodyOf PR.funcs[61]?
def region_scanner_at_L0 (z53 : Option (Nat × Nat)) (z54 : Int) (z55 : Option (Nat × Nat)) (z56 : Option (Nat × Nat)) (z57 : Int) (z58 : Int) (h64 : AH) (Kr : AV → AH → Prop) (K0 : AV → AH → Prop) : Prop := ALoop PR M (M 61) (sub [true, true, true, false, true, false, false] c61) [.ptr z53, .int .i64 z54, .bot, .bot, .ptr z55, .bot, .ptr z56, .bot, .bot, .bot, .bot, .bot, .bot, .bot, .bot, .bot, .bot, .bot, .bot, .bot, .bot, .bot, .bot, .bot, .bot, .bot, .bot, .bot, .bot, .bot, .int .i64 z57, .int .i64 z58, .bot, .bot, .bot, .bot, .bot, .bot, .bot, .bot, .bot, .bot, .bot, .bot, .bot, .bot, .bot, .bot, .bot, .bot, .bot, .bot, .bot, .bot, .bot, .bot, .bot, .bot, .bot, .bot, .bot, .bot] h64 fun e59 env60 h61 =>
  exCase e59 (
    guardR (AV.beq (.int .i64 z54) (env60.getD 1 .bot)) <|
    guardR (AV.beq (.ptr z55) (env60.getD 4 .bot)) <|
    guardR (AV.beq (.ptr z56) (env60.getD 6 .bot)) <|
    Kr (env60.getD 5 .bot) h61
  ) fun i62 =>
  bif i62 == 0 then (
    guardR (AV.beq (.int .i64 z54) (env60.getD 1 .bot)) <|
    guardR (AV.beq (.ptr z55) (env60.getD 4 .bot)) <|
    guardR (AV.beq (.ptr z56) (env60.getD 6 .bot)) <|
    K0 (env60.getD 5 .bot) h61
  ) else (
    False
  )
def region_scanner_at_L0w (z53 : Option (Nat × Nat)) (z54 : Int) (z55 : Option (Nat × Nat)) (z56 : Option (Nat × Nat)) (z57 : Int) (z58 : Int) (h64 : AH) (Kr : AV → AH → Prop) (K0 : AV → AH → Prop) : Prop :=
  br (decide (z58 < z57)) (
      ob z56 fun a65 =>
      ob (AH.cell h64 a65.1 a65.2) fun v66 =>
      chkInt .i64 v66 fun n67 =>
      ob z56 fun a68 =>
      ob (AH.cell h64 a68.1 (a68.2 + 2)) fun v69 =>
      chkInt .i64 v69 fun n70 =>
      region_scanner_says z53 (IntKind.wrap .i64 (z54 + z58)) n67 z58 n70 0 0 h64 fun r_073 r_174 h72 =>
        br (!r_174) (
          ob z55 fun a75 =>
          ob (AH.puts h72 a75.1 a75.2 [.int .i64 0, .int .i64 0, .int .i64 0]) fun h76 =>
            guardR (AV.beq (.int .i64 z54) (.int .i64 z54)) <|
            guardR (AV.beq (.ptr z55) (.ptr z55)) <|
            guardR (AV.beq (.ptr z56) (.ptr z56)) <|
            Kr (.bool false) h76
        ) (
          region_scanner_at_L0 z53 z54 z55 z56 z57 (IntKind.wrap .i64 (z58 + 1)) h72 Kr K0
        )
  ) (
    guardR (AV.beq (.int .i64 z54) (.int .i64 z54)) <|
    guardR (AV.beq (.ptr z55) (.ptr z55)) <|
    guardR (AV.beq (.ptr z56) (.ptr z56)) <|
    K0 .bot h64
  )
theorem region_scanner_at_L0.eq (z53 : Option (Nat × Nat)) (z54 : Int) (z55 : Option (Nat × Nat)) (z56 : Option (Nat × Nat)) (z57 : Int) (z58 : Int) (h64 : AH) (Kr : AV → AH → Prop) (K0 : AV → AH → Prop) : lstep PR (ACall PR M) (ALoop PR M) (M 61) (sub [true, true, true, false, true, false, false] c61) [.ptr z53, .int .i64 z54, .bot, .bot, .ptr z55, .bot, .ptr z56, .bot, .bot, .bot, .bot, .bot, .bot, .bot, .bot, .bot, .bot, .bot, .bot, .bot, .bot, .bot, .bot, .bot, .bot, .bot, .bot, .bot, .bot, .bot, .int .i64 z57, .int .i64 z58, .bot, .bot, .bot, .bot, .bot, .bot, .bot, .bot, .bot, .bot, .bot, .bot, .bot, .bot, .bot, .bot, .bot, .bot, .bot, .bot, .bot, .bot, .bot, .bot, .bot, .bot, .bot, .bot, .bot, .bot] h64 (fun e59 env60 h61 =>
  exCase e59 (
    guardR (AV.beq (.int .i64 z54) (env60.getD 1 .bot)) <|
    guardR (AV.beq (.ptr z55) (env60.getD 4 .bot)) <|
    guardR (AV.beq (.ptr z56) (env60.getD 6 .bot)) <|
    Kr (env60.getD 5 .bot) h61
  ) fun i62 =>
  bif i62 == 0 then (
    guardR (AV.beq (.int .i64 z54) (env60.getD 1 .bot)) <|
    guardR (AV.beq (.ptr z55) (env60.getD 4 .bot)) <|
    guardR (AV.beq (.ptr z56) (env60.getD 6 .bot)) <|
    K0 (env60.getD 5 .bot) h61
  ) else (
    False
  )
  ) = region_scanner_at_L0w z53 z54 z55 z56 z57 z58 h64 Kr K0 := by kernel_rfl
theorem region_scanner_at_L0.go {z53 : Option (Nat × Nat)} {z54 : Int} {z55 : Option (Nat × Nat)} {z56 : Option (Nat × Nat)} {z57 : Int} {z58 : Int} {h64 : AH} {Kr : AV → AH → Prop} {K0 : AV → AH → Prop} (hh : region_scanner_at_L0w z53 z54 z55 z56 z57 z58 h64 Kr K0) : region_scanner_at_L0 z53 z54 z55 z56 z57 z58 h64 Kr K0 := step_loop' (region_scanner_at_L0.eq z53 z54 z55 z56 z57 z58 h64 Kr K0) hh
def region_scanner_atw (s_1 : Option (Nat × Nat)) (p_2 : Int) (h : AH) (K : Int → Int → Int → Bool → AH → Prop) : Prop :=
  new h (.cells [.int .i64 0, .int .i64 0, .int .i64 0] false) fun i4 h3 =>
    ob s_1 fun a5 =>
    ob (AH.cell h3 a5.1 a5.2) fun v6 =>
    chkSl v6 fun x7 =>
    ob x7 fun s8 =>
    need ((0 : Int) ≤ p_2 ∧ p_2 < ((s8.len : Nat) : Int)) <|
    ob (AH.cellsAt h3 s8.id (s8.off + Int.toNat p_2 * 7) 7) fun cs9 =>
    asCons cs9 fun v10 l11 =>
    chkInt .i64 v10 fun n12 =>
    asCons l11 fun v13 l14 =>
    chkInt .i64 v13 fun n15 =>
    asCons l14 fun v16 l17 =>
    chkInt .i64 v16 fun n18 =>
    asCons l17 fun v19 l20 =>
    chkInt .i64 v19 fun n21 =>
    asCons l20 fun v22 l23 =>
    chkInt .i64 v22 fun n24 =>
    asCons l23 fun v25 l26 =>
    chkSl v25 fun x27 =>
    asCons l26 fun v28 l29 =>
    chkBool v28 fun b30 =>
    asNil l29 <|
    new h3 (.cells [.int .i64 0, .int .i64 0, .int .i64 0, .int .i64 0, .int .i64 0, .slice none, .bool false] false) fun i32 h31 =>
    ob (AH.puts h31 i32 0 [.int .i64 n12, .int .i64 n15, .int .i64 n18, .int .i64 n21, .int .i64 n24, .slice x27, .bool b30]) fun h33 =>
      ob (AH.cell h33 i32 6) fun v34 =>
      chkBool v34 fun b35 =>
      br (!b35) (
        ob (AH.puts h33 i4 0 [.int .i64 0, .int .i64 0, .int .i64 0]) fun h41 =>
          ob (AH.cellsAt h41 i4 0 3) fun cs42 =>
          ints3 .i64 cs42 fun n43 n44 n45 =>
          K n43 n44 n45 false h41
      ) (
        ob (AH.cell h33 i32 0) fun v36 =>
        chkInt .i64 v36 fun n37 =>
        region_item n37 h33 fun r40 h39 =>
          br (!r40) (
            ob (AH.puts h39 i4 0 [.int .i64 0, .int .i64 0, .int .i64 0]) fun h46 =>
              ob (AH.cellsAt h46 i4 0 3) fun cs47 =>
              ints3 .i64 cs47 fun n48 n49 n50 =>
              K n48 n49 n50 false h46
          ) (
            ob (AH.cell h39 i32 2) fun v51 =>
            chkInt .i64 v51 fun n52 =>
              region_scanner_at_L0 s_1 p_2 (some (i4, 0)) (some (i32, 0)) n52 0 h39
                (fun u78 h77 =>
                  ob (AH.cellsAt h77 i4 0 3) fun cs79 =>
                  ints3 .i64 cs79 fun n80 n81 n82 =>
                  chkBool u78 fun b83 =>
                  K n80 n81 n82 b83 h77
                )
                (fun u85 h84 =>
                  ob (AH.cell h84 i32 0) fun v86 =>
                  chkInt .i64 v86 fun n87 =>
                  ob (AH.cell h84 i32 2) fun v88 =>
                  chkInt .i64 v88 fun n89 =>
                  ob (AH.puts h84 i4 0 [.int .i64 n87, .int .i64 p_2, .int .i64 n89]) fun h90 =>
                    ob (AH.cellsAt h90 i4 0 3) fun cs91 =>
                    ints3 .i64 cs91 fun n92 n93 n94 =>
                    K n92 n93 n94 true h90
                )
          )
      )
theorem region_scanner_at.eq (s_1 : Option (Nat × Nat)) (p_2 : Int) (h : AH) (K : Int → Int → Int → Bool → AH → Prop) : fstep PR (ACall PR M) (ALoop PR M) M 61 [.ptr s_1, .int .i64 p_2] h (fun v1 h2 =>
  asTup v1 fun l3 =>
  asCons l3 fun v4 l5 =>
  asAgg v4 fun l6 =>
  ints3 .i64 l6 fun n7 n8 n9 =>
  asCons l5 fun v10 l11 =>
  chkBool v10 fun b12 =>
  asNil l11 <|
  K n7 n8 n9 b12 h2
  ) = region_scanner_atw s_1 p_2 h K := by kernel_rfl
theorem region_scanner_at.go {s_1 : Option (Nat × Nat)} {p_2 : Int} {h : AH} {K : Int → Int → Int → Bool → AH → Prop} (hh : region_scanner_atw s_1 p_2 h K) : region_scanner_at s_1 p_2 h K := step_call (region_scanner_at.eq s_1 p_2 h K) hh

end Go.Abs
