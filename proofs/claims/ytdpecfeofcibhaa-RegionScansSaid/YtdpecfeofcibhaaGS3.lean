/- Printed by gen2.py: what functions of the program come to. -/
import Derived.Test.YtdpecfeofcibhaaG0
import Derived.KernelRfl
set_option maxRecDepth 100000
namespace Go.Abs
open Go.Proofs

/-! depot/depotref03.Get -/
noncomputable def c73 : Code := bodyOf PR.funcs[73]?
def depotref03_Get_L0 (z4 : Option Sl) (z5 : Int) (z6 : Int) (z7 : Int) (h14 : AH) (K0 : Int → AH → Prop) : Prop := ALoop PR M (M 73) (sub [true, true, true, true, false, true, false, false] c73) [.slice z4, .int .i64 z5, .bot, .bot, .bot, .bot, .bot, .bot, .int .i64 z6, .int .i64 z7, .bot, .bot, .bot, .bot, .bot, .bot, .bot, .bot, .bot, .bot, .bot, .bot, .bot, .bot, .bot, .bot, .bot, .bot, .bot, .bot, .bot, .bot, .bot, .bot, .bot, .bot, .bot, .bot, .bot, .bot, .bot, .bot, .bot, .bot, .bot, .bot, .bot, .bot, .bot] h14 fun e8 env9 h10 =>
  exCase e8 (
    False
  ) fun i11 =>
  bif i11 == 0 then (
    chkInt .i64 (env9.getD 8 .bot) fun u12 =>
    K0 u12 h10
  ) else (
    False
  )
def depotref03_Get_L0w (z4 : Option Sl) (z5 : Int) (z6 : Int) (z7 : Int) (h14 : AH) (K0 : Int → AH → Prop) : Prop :=
  br (decide (z7 ≥ 0)) (
    ob z4 fun s15 =>
    need ((0 : Int) ≤ IntKind.wrap .i64 (z5 + z7) ∧ IntKind.wrap .i64 (z5 + z7) < ((s15.len : Nat) : Int)) <|
    ob (AH.cell h14 s15.id (s15.off + Int.toNat (IntKind.wrap .i64 (z5 + z7)) * 1)) fun v16 =>
    chkInt .u8 v16 fun n17 =>
      depotref03_Get_L0 z4 z5 (IntKind.wrap .i64 ((IntKind.wrap .i64 (256 * z6)) + (IntKind.wrap .i64 n17))) (IntKind.wrap .i64 (z7 - 1)) h14 K0
  ) (
    K0 z6 h14
  )
theorem depotref03_Get_L0.eq (z4 : Option Sl) (z5 : Int) (z6 : Int) (z7 : Int) (h14 : AH) (K0 : Int → AH → Prop) : lstep PR (ACall PR M) (ALoop PR M) (M 73) (sub [true, true, true, true, false, true, false, false] c73) [.slice z4, .int .i64 z5, .bot, .bot, .bot, .bot, .bot, .bot, .int .i64 z6, .int .i64 z7, .bot, .bot, .bot, .bot, .bot, .bot, .bot, .bot, .bot, .bot, .bot, .bot, .bot, .bot, .bot, .bot, .bot, .bot, .bot, .bot, .bot, .bot, .bot, .bot, .bot, .bot, .bot, .bot, .bot, .bot, .bot, .bot, .bot, .bot, .bot, .bot, .bot, .bot, .bot] h14 (fun e8 env9 h10 =>
  exCase e8 (
    False
  ) fun i11 =>
  bif i11 == 0 then (
    chkInt .i64 (env9.getD 8 .bot) fun u12 =>
    K0 u12 h10
  ) else (
    False
  )
  ) = depotref03_Get_L0w z4 z5 z6 z7 h14 K0 := by kernel_rfl
theorem depotref03_Get_L0.go {z4 : Option Sl} {z5 : Int} {z6 : Int} {z7 : Int} {h14 : AH} {K0 : Int → AH → Prop} (hh : depotref03_Get_L0w z4 z5 z6 z7 h14 K0) : depotref03_Get_L0 z4 z5 z6 z7 h14 K0 := step_loop' (depotref03_Get_L0.eq z4 z5 z6 z7 h14 K0) hh
def depotref03_Getw (b_1 : Option Sl) (at_2 : Int) (width_3 : Int) (h : AH) (K : Int → Int → AH → Prop) : Prop :=
  br (decide (width_3 < 1)) (
      K 0 2 h
  ) (
    br (decide (width_3 > 7)) (
      K 0 2 h
    ) (
      br (decide (at_2 < 0)) (
          K 0 6 h
      ) (
        br (decide (at_2 > ((lenO b_1 : Nat) : Int))) (
            K 0 6 h
        ) (
          br (decide ((IntKind.wrap .i64 (((lenO b_1 : Nat) : Int) - at_2)) < width_3)) (
            K 0 6 h
          ) (
              depotref03_Get_L0 b_1 at_2 0 (IntKind.wrap .i64 (width_3 - 1)) h
                (fun u19 h18 =>
                    K u19 0 h18
                )
          )
        )
      )
    )
  )
theorem depotref03_Get.eq (b_1 : Option Sl) (at_2 : Int) (width_3 : Int) (h : AH) (K : Int → Int → AH → Prop) : fstep PR (ACall PR M) (ALoop PR M) M 73 [.slice b_1, .int .i64 at_2, .int .i64 width_3] h (fun v1 h2 =>
  asTup v1 fun l3 =>
  asCons l3 fun v4 l5 =>
  chkInt .i64 v4 fun n6 =>
  asCons l5 fun v7 l8 =>
  chkInt .i64 v7 fun n9 =>
  asNil l8 <|
  K n6 n9 h2
  ) = depotref03_Getw b_1 at_2 width_3 h K := by kernel_rfl
theorem depotref03_Get.go {b_1 : Option Sl} {at_2 : Int} {width_3 : Int} {h : AH} {K : Int → Int → AH → Prop} (hh : depotref03_Getw b_1 at_2 width_3 h K) : depotref03_Get b_1 at_2 width_3 h K := step_call (depotref03_Get.eq b_1 at_2 width_3 h K) hh

/-! depot/flash.within -/
noncomputable def c80 : Code := bodyOf PR.funcs[80]?
def flash_withinw (n_1 : Int) (least_2 : Int) (most_3 : Int) (h : AH) (K : Bool → AH → Prop) : Prop :=
  br (decide (n_1 ≥ least_2)) (
    K (decide (n_1 ≤ most_3)) h
  ) (
    K false h
  )
theorem flash_within.eq (n_1 : Int) (least_2 : Int) (most_3 : Int) (h : AH) (K : Bool → AH → Prop) : fstep PR (ACall PR M) (ALoop PR M) M 80 [.int .i64 n_1, .int .i64 least_2, .int .i64 most_3] h (fun v1 h2 =>
  chkBool v1 fun b3 =>
  K b3 h2
  ) = flash_withinw n_1 least_2 most_3 h K := by kernel_rfl
theorem flash_within.go {n_1 : Int} {least_2 : Int} {most_3 : Int} {h : AH} {K : Bool → AH → Prop} (hh : flash_withinw n_1 least_2 most_3 h K) : flash_within n_1 least_2 most_3 h K := step_call (flash_within.eq n_1 least_2 most_3 h K) hh

/-! (*depot/flash.block).wipe -/
noncomputable def c81 : Code := bodyOf PR.funcs[81]?
def flash_block_wipe_L0 (z4 : Option (Nat × Nat)) (z5 : Int) (z6 : Int) (z7 : Int) (h12 : AH) (K0 : AH → Prop) : Prop := ALoop PR M (M 81) (sub [true, false, false] c81) [.ptr z4, .bot, .int .i64 z5, .bot, .bot, .bot, .bot, .int .i64 z6, .int .i64 z7, .bot, .bot, .bot, .bot, .bot, .bot, .bot, .bot, .bot, .bot, .bot] h12 fun e8 env9 h10 =>
  exCase e8 (
    False
  ) fun i11 =>
  bif i11 == 0 then (
    K0 h10
  ) else (
    False
  )
def flash_block_wipe_L0w (z4 : Option (Nat × Nat)) (z5 : Int) (z6 : Int) (z7 : Int) (h12 : AH) (K0 : AH → Prop) : Prop :=
  br (decide (z7 < z6)) (
      hold h12 0 fun h13 =>
      ob z4 fun a14 =>
      ob (AH.cell h13 a14.1 a14.2) fun v15 =>
      chkSl v15 fun x16 =>
      flash_blank z5 h13 fun r19 h18 =>
      guardR (Req.ok h18 (.cells a14.1 a14.2 1 [.slice x16]) && true) <|
      ob x16 fun s20 =>
      need ((0 : Int) ≤ z7 ∧ z7 < ((s20.len : Nat) : Int)) <|
      ob (AH.puts h18 s20.id (s20.off + Int.toNat z7 * 1) [.slice r19]) fun h21 =>
        flash_block_wipe_L0 z4 z5 z6 (IntKind.wrap .i64 (z7 + 1)) h21 K0
  ) (
    K0 h12
  )
theorem flash_block_wipe_L0.eq (z4 : Option (Nat × Nat)) (z5 : Int) (z6 : Int) (z7 : Int) (h12 : AH) (K0 : AH → Prop) : lstep PR (ACall PR M) (ALoop PR M) (M 81) (sub [true, false, false] c81) [.ptr z4, .bot, .int .i64 z5, .bot, .bot, .bot, .bot, .int .i64 z6, .int .i64 z7, .bot, .bot, .bot, .bot, .bot, .bot, .bot, .bot, .bot, .bot, .bot] h12 (fun e8 env9 h10 =>
  exCase e8 (
    False
  ) fun i11 =>
  bif i11 == 0 then (
    K0 h10
  ) else (
    False
  )
  ) = flash_block_wipe_L0w z4 z5 z6 z7 h12 K0 := by kernel_rfl
theorem flash_block_wipe_L0.go {z4 : Option (Nat × Nat)} {z5 : Int} {z6 : Int} {z7 : Int} {h12 : AH} {K0 : AH → Prop} (hh : flash_block_wipe_L0w z4 z5 z6 z7 h12 K0) : flash_block_wipe_L0 z4 z5 z6 z7 h12 K0 := step_loop' (flash_block_wipe_L0.eq z4 z5 z6 z7 h12 K0) hh
def flash_block_wipew (b_1 : Option (Nat × Nat)) (n_2 : Int) (size_3 : Int) (h : AH) (K : AH → Prop) : Prop :=
  flash_block_wipe_L0 b_1 size_3 n_2 0 h
    (fun h22 =>
      K h22
    )
theorem flash_block_wipe.eq (b_1 : Option (Nat × Nat)) (n_2 : Int) (size_3 : Int) (h : AH) (K : AH → Prop) : fstep PR (ACall PR M) (ALoop PR M) M 81 [.ptr b_1, .int .i64 n_2, .int .i64 size_3] h (fun v1 h2 =>
  asTup v1 fun l3 =>
  asNil l3 <|
  K h2
  ) = flash_block_wipew b_1 n_2 size_3 h K := by kernel_rfl
theorem flash_block_wipe.go {b_1 : Option (Nat × Nat)} {n_2 : Int} {size_3 : Int} {h : AH} {K : AH → Prop} (hh : flash_block_wipew b_1 n_2 size_3 h K) : flash_block_wipe b_1 n_2 size_3 h K := step_call (flash_block_wipe.eq b_1 n_2 size_3 h K) hh

/-! depot/region.program -/
noncomputable def c82 : Code := bodyOf PR.funcs[82]?
def region_programw (f_1 : Option (Nat × Nat)) (block_2 : Int) (h__03 : Int) (h__14 : Int) (h__25 : Int) (h__36 : Int) (h__47 : Int) (payload_8 : Option Sl) (h : AH) (K : Int → AH → Prop) : Prop :=
  new h (.cells [.int .i64 h__03, .int .i64 h__14, .int .i64 h__25, .int .i64 h__36, .int .i64 h__47] false) fun i10 h9 =>
    hold h9 0 fun h11 =>
    ob (AH.cellsAt h11 i10 0 5) fun cs12 =>
    ints5 .i64 cs12 fun n13 n14 n15 n16 n17 =>
    flash_Flash_Config f_1 h11 fun r_020 r_121 r_222 r_323 h19 =>
    guardR (Req.ok h19 (.cells i10 0 5 [.int .i64 n13, .int .i64 n14, .int .i64 n15, .int .i64 n16, .int .i64 n17]) && true) <|
    page_Image n13 n14 n15 n16 n17 payload_8 r_222 h19 fun r_026 r_127 h25 =>
      br (r_127 != 0) (
        K r_127 h25
      ) (
        ob (AH.cell h25 i10 4) fun v28 =>
        chkInt .i64 v28 fun n29 =>
        flash_Flash_Program f_1 block_2 n29 r_026 h25 fun r32 h31 =>
          K r32 h31
      )
theorem region_program.eq (f_1 : Option (Nat × Nat)) (block_2 : Int) (h__03 : Int) (h__14 : Int) (h__25 : Int) (h__36 : Int) (h__47 : Int) (payload_8 : Option Sl) (h : AH) (K : Int → AH → Prop) : fstep PR (ACall PR M) (ALoop PR M) M 82 [.ptr f_1, .int .i64 block_2, .agg [.int .i64 h__03, .int .i64 h__14, .int .i64 h__25, .int .i64 h__36, .int .i64 h__47], .slice payload_8] h (fun v1 h2 =>
  chkInt .i64 v1 fun n3 =>
  K n3 h2
  ) = region_programw f_1 block_2 h__03 h__14 h__25 h__36 h__47 payload_8 h K := by kernel_rfl
theorem region_program.go {f_1 : Option (Nat × Nat)} {block_2 : Int} {h__03 : Int} {h__14 : Int} {h__25 : Int} {h__36 : Int} {h__47 : Int} {payload_8 : Option Sl} {h : AH} {K : Int → AH → Prop} (hh : region_programw f_1 block_2 h__03 h__14 h__25 h__36 h__47 payload_8 h K) : region_program f_1 block_2 h__03 h__14 h__25 h__36 h__47 payload_8 h K := step_call (region_program.eq f_1 block_2 h__03 h__14 h__25 h__36 h__47 payload_8 h K) hh

/-! (*depot/flash.Flash).Config -/
noncomputable def c83 : Code := bodyOf PR.funcs[83]?
def flash_Flash_Configw (f_1 : Option (Nat × Nat)) (h : AH) (K : Int → Int → Int → Int → AH → Prop) : Prop :=
  new h (.cells [.int .i64 0, .int .i64 0, .int .i64 0, .int .i64 0] false) fun i3 h2 =>
    br (Option.isNone f_1) (
      ob (AH.puts h2 i3 0 [.int .i64 0, .int .i64 0, .int .i64 0, .int .i64 0]) fun h4 =>
        ob (AH.cellsAt h4 i3 0 4) fun cs5 =>
        ints4 .i64 cs5 fun n6 n7 n8 n9 =>
        K n6 n7 n8 n9 h4
    ) (
      ob f_1 fun a10 =>
      ob (AH.cellsAt h2 a10.1 (a10.2 + 3) 4) fun cs11 =>
      ints4 .i64 cs11 fun n12 n13 n14 n15 =>
      ob (AH.puts h2 i3 0 [.int .i64 n12, .int .i64 n13, .int .i64 n14, .int .i64 n15]) fun h16 =>
        ob (AH.cellsAt h16 i3 0 4) fun cs17 =>
        ints4 .i64 cs17 fun n18 n19 n20 n21 =>
        K n18 n19 n20 n21 h16
    )
theorem flash_Flash_Config.eq (f_1 : Option (Nat × Nat)) (h : AH) (K : Int → Int → Int → Int → AH → Prop) : fstep PR (ACall PR M) (ALoop PR M) M 83 [.ptr f_1] h (fun v1 h2 =>
  asAgg v1 fun l3 =>
  ints4 .i64 l3 fun n4 n5 n6 n7 =>
  K n4 n5 n6 n7 h2
  ) = flash_Flash_Configw f_1 h K := by kernel_rfl
theorem flash_Flash_Config.go {f_1 : Option (Nat × Nat)} {h : AH} {K : Int → Int → Int → Int → AH → Prop} (hh : flash_Flash_Configw f_1 h K) : flash_Flash_Config f_1 h K := step_call (flash_Flash_Config.eq f_1 h K) hh

/-! (*depot/flash.Flash).Read -/
noncomputable def c84 : Code := bodyOf PR.funcs[84]?
def flash_Flash_Readw (f_1 : Option (Nat × Nat)) (b_2 : Int) (p_3 : Int) (h : AH) (K : Option Sl → Int → AH → Prop) : Prop :=
  flash_Flash_find f_1 b_2 p_3 h fun r_06 r_17 h5 =>
    br (r_17 != 0) (
      K none r_17 h5
    ) (
      ob r_06 fun a8 =>
      ob (AH.cell h5 a8.1 (a8.2 + 3)) fun v9 =>
      chkBool v9 fun b10 =>
        br b10 (
          ob f_1 fun a11 =>
          ob (AH.cell h5 a11.1 (a11.2 + 3 + 2)) fun v12 =>
          chkInt .i64 v12 fun n13 =>
          flash_blank n13 h5 fun r16 h15 =>
            K r16 0 h15
        ) (
          new h5 (.cells [] false) fun i18 h17 =>
          ob r_06 fun a19 =>
          ob (AH.cell h17 a19.1 a19.2) fun v20 =>
          chkSl v20 fun x21 =>
          ob x21 fun s22 =>
          need ((0 : Int) ≤ p_3 ∧ p_3 < ((s22.len : Nat) : Int)) <|
          ob (AH.cell h17 s22.id (s22.off + Int.toNat p_3 * 1)) fun v23 =>
          chkSl v23 fun x24 =>
          aNews h17 1 (.slice x24) fun x25 n26 =>
          guardR (x25.all AV.scal && true && true) <|
          aAppend h17 1 1 (some ⟨i18, 0, 0, 0, none⟩) x25 n26 fun s27 h28 =>
            K s27 0 h28
        )
    )
theorem flash_Flash_Read.eq (f_1 : Option (Nat × Nat)) (b_2 : Int) (p_3 : Int) (h : AH) (K : Option Sl → Int → AH → Prop) : fstep PR (ACall PR M) (ALoop PR M) M 84 [.ptr f_1, .int .i64 b_2, .int .i64 p_3] h (fun v1 h2 =>
  asTup v1 fun l3 =>
  asCons l3 fun v4 l5 =>
  chkSl v4 fun x6 =>
  asCons l5 fun v7 l8 =>
  chkInt .i64 v7 fun n9 =>
  asNil l8 <|
  K x6 n9 h2
  ) = flash_Flash_Readw f_1 b_2 p_3 h K := by kernel_rfl
theorem flash_Flash_Read.go {f_1 : Option (Nat × Nat)} {b_2 : Int} {p_3 : Int} {h : AH} {K : Option Sl → Int → AH → Prop} (hh : flash_Flash_Readw f_1 b_2 p_3 h K) : flash_Flash_Read f_1 b_2 p_3 h K := step_call (flash_Flash_Read.eq f_1 b_2 p_3 h K) hh

/-! (*depot/flash.Flash).find -/
noncomputable def c89 : Code := bodyOf PR.funcs[89]?
def flash_Flash_findw (f_1 : Option (Nat × Nat)) (b_2 : Int) (p_3 : Int) (h : AH) (K : Option (Nat × Nat) → Int → AH → Prop) : Prop :=
    br (Option.isNone f_1) (
      K none 1 h
    ) (
      ob f_1 fun a4 =>
      ob (AH.cell h a4.1 (a4.2 + 2)) fun v5 =>
      chkBool v5 fun b6 =>
        br b6 (
          K none 11 h
        ) (
          flash_Flash_at f_1 b_2 h fun r9 h8 =>
            br (Option.isNone r9) (
                K none 2 h8
            ) (
              ob f_1 fun a10 =>
              ob (AH.cell h8 a10.1 (a10.2 + 3 + 1)) fun v11 =>
              chkInt .i64 v11 fun n12 =>
              flash_within p_3 0 (IntKind.wrap .i64 (n12 - 1)) h8 fun r15 h14 =>
                br (!r15) (
                  K none 2 h14
                ) (
                    K r9 0 h14
                )
            )
        )
    )
theorem flash_Flash_find.eq (f_1 : Option (Nat × Nat)) (b_2 : Int) (p_3 : Int) (h : AH) (K : Option (Nat × Nat) → Int → AH → Prop) : fstep PR (ACall PR M) (ALoop PR M) M 89 [.ptr f_1, .int .i64 b_2, .int .i64 p_3] h (fun v1 h2 =>
  asTup v1 fun l3 =>
  asCons l3 fun v4 l5 =>
  chkPtr v4 fun p6 =>
  asCons l5 fun v7 l8 =>
  chkInt .i64 v7 fun n9 =>
  asNil l8 <|
  K p6 n9 h2
  ) = flash_Flash_findw f_1 b_2 p_3 h K := by kernel_rfl
theorem flash_Flash_find.go {f_1 : Option (Nat × Nat)} {b_2 : Int} {p_3 : Int} {h : AH} {K : Option (Nat × Nat) → Int → AH → Prop} (hh : flash_Flash_findw f_1 b_2 p_3 h K) : flash_Flash_find f_1 b_2 p_3 h K := step_call (flash_Flash_find.eq f_1 b_2 p_3 h K) hh

/-! (*depot/flash.tearer).tears -/
noncomputable def c90 : Code := bodyOf PR.funcs[90]?
def flash_tearer_tearsw (t_1 : Option (Nat × Nat)) (h : AH) (K : Bool → AH → Prop) : Prop :=
  ob t_1 fun a2 =>
  ob (AH.cell h a2.1 a2.2) fun v3 =>
  chkInt .i64 v3 fun n4 =>
    br (n4 == 0) (
      K false h
    ) (
      ob t_1 fun a5 =>
      ob (AH.cell h a5.1 a5.2) fun v6 =>
      chkInt .i64 v6 fun n7 =>
      ob t_1 fun a8 =>
      ob (AH.puts h a8.1 a8.2 [.int .i64 (IntKind.wrap .i64 (n7 - 1))]) fun h9 =>
        ob t_1 fun a10 =>
        ob (AH.cell h9 a10.1 a10.2) fun v11 =>
        chkInt .i64 v11 fun n12 =>
        ob t_1 fun a13 =>
        ob (AH.puts h9 a13.1 (a13.2 + 2) [.bool (n12 == 0)]) fun h14 =>
          ob t_1 fun a15 =>
          ob (AH.cell h14 a15.1 (a15.2 + 2)) fun v16 =>
          chkBool v16 fun b17 =>
            K b17 h14
    )
theorem flash_tearer_tears.eq (t_1 : Option (Nat × Nat)) (h : AH) (K : Bool → AH → Prop) : fstep PR (ACall PR M) (ALoop PR M) M 90 [.ptr t_1] h (fun v1 h2 =>
  chkBool v1 fun b3 =>
  K b3 h2
  ) = flash_tearer_tearsw t_1 h K := by kernel_rfl
theorem flash_tearer_tears.go {t_1 : Option (Nat × Nat)} {h : AH} {K : Bool → AH → Prop} (hh : flash_tearer_tearsw t_1 h K) : flash_tearer_tears t_1 h K := step_call (flash_tearer_tears.eq t_1 h K) hh

/-! (*depot/flash.tearer).kept -/
noncomputable def c91 : Code := bodyOf PR.funcs[91]?
def flash_tearer_keptw (t_1 : Option (Nat × Nat)) (all_2 : Int) (h : AH) (K : Int → AH → Prop) : Prop :=
  ob t_1 fun a3 =>
  ob (AH.cell h a3.1 (a3.2 + 1)) fun v4 =>
  chkInt .i64 v4 fun n5 =>
    K (if (all_2 : Int) < (if (0 : Int) > n5 then 0 else n5) then all_2 else (if (0 : Int) > n5 then 0 else n5)) h
theorem flash_tearer_kept.eq (t_1 : Option (Nat × Nat)) (all_2 : Int) (h : AH) (K : Int → AH → Prop) : fstep PR (ACall PR M) (ALoop PR M) M 91 [.ptr t_1, .int .i64 all_2] h (fun v1 h2 =>
  chkInt .i64 v1 fun n3 =>
  K n3 h2
  ) = flash_tearer_keptw t_1 all_2 h K := by kernel_rfl
theorem flash_tearer_kept.go {t_1 : Option (Nat × Nat)} {all_2 : Int} {h : AH} {K : Int → AH → Prop} (hh : flash_tearer_keptw t_1 all_2 h K) : flash_tearer_kept t_1 all_2 h K := step_call (flash_tearer_kept.eq t_1 all_2 h K) hh

/-! depot/page.Blank -/
noncomputable def c96 : Code := bodyOf PR.funcs[96]?
def page_Blank_L0 (z2 : Option Sl) (z3 : Int) (z4 : Int) (h10 : AH) (Kr : AV → AH → Prop) (K0 : AV → AH → Prop) : Prop := ALoop PR M (M 96) (sub [true, false, true, false, false] c96) [.bot, .bot, .bot, .bot, .bot, .slice z2, .int .i64 z3, .int .i64 z4, .bot, .bot, .bot, .bot, .bot, .bot] h10 fun e5 env6 h7 =>
  exCase e5 (
    Kr (env6.getD 2 .bot) h7
  ) fun i8 =>
  bif i8 == 0 then (
    K0 (env6.getD 2 .bot) h7
  ) else (
    False
  )
def page_Blank_L0w (z2 : Option Sl) (z3 : Int) (z4 : Int) (h10 : AH) (Kr : AV → AH → Prop) (K0 : AV → AH → Prop) : Prop :=
  br (decide (z4 < z3)) (
    ob z2 fun s11 =>
    need ((0 : Int) ≤ z4 ∧ z4 < ((s11.len : Nat) : Int)) <|
    ob (AH.cell h10 s11.id (s11.off + Int.toNat z4 * 1)) fun v12 =>
    chkInt .u8 v12 fun n13 =>
      br (n13 != 255) (
        Kr (.bool false) h10
      ) (
        page_Blank_L0 z2 z3 (IntKind.wrap .i64 (z4 + 1)) h10 Kr K0
      )
  ) (
    K0 .bot h10
  )
theorem page_Blank_L0.eq (z2 : Option Sl) (z3 : Int) (z4 : Int) (h10 : AH) (Kr : AV → AH → Prop) (K0 : AV → AH → Prop) : lstep PR (ACall PR M) (ALoop PR M) (M 96) (sub [true, false, true, false, false] c96) [.bot, .bot, .bot, .bot, .bot, .slice z2, .int .i64 z3, .int .i64 z4, .bot, .bot, .bot, .bot, .bot, .bot] h10 (fun e5 env6 h7 =>
  exCase e5 (
    Kr (env6.getD 2 .bot) h7
  ) fun i8 =>
  bif i8 == 0 then (
    K0 (env6.getD 2 .bot) h7
  ) else (
    False
  )
  ) = page_Blank_L0w z2 z3 z4 h10 Kr K0 := by kernel_rfl
theorem page_Blank_L0.go {z2 : Option Sl} {z3 : Int} {z4 : Int} {h10 : AH} {Kr : AV → AH → Prop} {K0 : AV → AH → Prop} (hh : page_Blank_L0w z2 z3 z4 h10 Kr K0) : page_Blank_L0 z2 z3 z4 h10 Kr K0 := step_loop' (page_Blank_L0.eq z2 z3 z4 h10 Kr K0) hh
def page_Blankw (b_1 : Option Sl) (h : AH) (K : Bool → AH → Prop) : Prop :=
    page_Blank_L0 b_1 ((lenO b_1 : Nat) : Int) 0 h
      (fun u15 h14 =>
        chkBool u15 fun b16 =>
        K b16 h14
      )
      (fun u18 h17 =>
          K true h17
      )
theorem page_Blank.eq (b_1 : Option Sl) (h : AH) (K : Bool → AH → Prop) : fstep PR (ACall PR M) (ALoop PR M) M 96 [.slice b_1] h (fun v1 h2 =>
  chkBool v1 fun b3 =>
  K b3 h2
  ) = page_Blankw b_1 h K := by kernel_rfl
theorem page_Blank.go {b_1 : Option Sl} {h : AH} {K : Bool → AH → Prop} (hh : page_Blankw b_1 h K) : page_Blank b_1 h K := step_call (page_Blank.eq b_1 h K) hh

/-! depot/region.item -/
noncomputable def c97 : Code := bodyOf PR.funcs[97]?
def region_itemw (kind_1 : Int) (h : AH) (K : Bool → AH → Prop) : Prop :=
  br (kind_1 == 2) (
    K true h
  ) (
    K (kind_1 == 3) h
  )
theorem region_item.eq (kind_1 : Int) (h : AH) (K : Bool → AH → Prop) : fstep PR (ACall PR M) (ALoop PR M) M 97 [.int .i64 kind_1] h (fun v1 h2 =>
  chkBool v1 fun b3 =>
  K b3 h2
  ) = region_itemw kind_1 h K := by kernel_rfl
theorem region_item.go {kind_1 : Int} {h : AH} {K : Bool → AH → Prop} (hh : region_itemw kind_1 h K) : region_item kind_1 h K := step_call (region_item.eq kind_1 h K) hh

/-! depot/depotref23.sized -/
noncomputable def c98 : Code := bodyOf PR.funcs[98]?
def depotref23_sizedw (n_1 : Int) (h : AH) (K : Bool → AH → Prop) : Prop :=
  br (decide (n_1 ≥ 64)) (
    K (decide (n_1 ≤ 512)) h
  ) (
    K false h
  )
theorem depotref23_sized.eq (n_1 : Int) (h : AH) (K : Bool → AH → Prop) : fstep PR (ACall PR M) (ALoop PR M) M 98 [.int .i64 n_1] h (fun v1 h2 =>
  chkBool v1 fun b3 =>
  K b3 h2
  ) = depotref23_sizedw n_1 h K := by kernel_rfl
theorem depotref23_sized.go {n_1 : Int} {h : AH} {K : Bool → AH → Prop} (hh : depotref23_sizedw n_1 h K) : depotref23_sized n_1 h K := step_call (depotref23_sized.eq n_1 h K) hh

/-! depot/depotref04.Sum -/
noncomputable def c99 : Code := bodyOf PR.funcs[99]?
def depotref04_Sumw (b_1 : Option Sl) (h : AH) (K : Int → AH → Prop) : Prop :=
  depotref04_More 0 b_1 h fun r4 h3 =>
    K r4 h3
theorem depotref04_Sum.eq (b_1 : Option Sl) (h : AH) (K : Int → AH → Prop) : fstep PR (ACall PR M) (ALoop PR M) M 99 [.slice b_1] h (fun v1 h2 =>
  chkInt .i64 v1 fun n3 =>
  K n3 h2
  ) = depotref04_Sumw b_1 h K := by kernel_rfl
theorem depotref04_Sum.go {b_1 : Option Sl} {h : AH} {K : Int → AH → Prop} (hh : depotref04_Sumw b_1 h K) : depotref04_Sum b_1 h K := step_call (depotref04_Sum.eq b_1 h K) hh

/-! depot/depotref23.Image -/
noncomputable def c100 : Code := bodyOf PR.funcs[100]?
def depotref23_Image_L0 (z52 : Int) (z53 : Option Sl) (h60 : AH) (K0 : Option Sl → AH → Prop) : Prop := ALoop PR M (M 100) (sub [true, true, true, true, true, true, true, true, true, false, false, false] c100) [.bot, .bot, .int .i64 z52, .bot, .bot, .bot, .bot, .bot, .bot, .slice z53, .bot, .bot, .bot, .bot, .bot, .bot, .bot, .bot, .bot, .bot, .bot, .bot, .bot, .bot, .bot, .bot, .bot, .bot, .bot, .bot, .bot, .bot, .bot, .bot, .bot, .bot, .bot, .bot, .bot, .bot, .bot, .bot, .bot, .bot, .bot, .bot, .bot, .bot, .bot, .bot, .bot, .bot, .bot, .bot, .bot, .bot, .bot, .bot, .bot, .bot, .bot, .bot, .bot, .bot, .bot, .bot, .bot, .bot, .bot, .bot, .bot, .bot] h60 fun e54 env55 h56 =>
  exCase e54 (
    False
  ) fun i57 =>
  bif i57 == 0 then (
    chkSl (env55.getD 9 .bot) fun u58 =>
    K0 u58 h56
  ) else (
    False
  )
def depotref23_Image_L0w (z52 : Int) (z53 : Option Sl) (h60 : AH) (K0 : Option Sl → AH → Prop) : Prop :=
  br (decide (((lenO z53 : Nat) : Int) < (IntKind.wrap .i64 (z52 - 4)))) (
    new h60 (.cells [.int .u8 0] false) fun i62 h61 =>
    aNews h61 1 (.slice (some ⟨i62, 0, 1, 1, none⟩)) fun x63 n64 =>
    guardR (x63.all AV.scal && true && true) <|
    aAppend h61 1 1 z53 x63 n64 fun s65 h66 =>
    depotref23_Image_L0 z52 s65 h66 K0
  ) (
    K0 z53 h60
  )
theorem depotref23_Image_L0.eq (z52 : Int) (z53 : Option Sl) (h60 : AH) (K0 : Option Sl → AH → Prop) : lstep PR (ACall PR M) (ALoop PR M) (M 100) (sub [true, true, true, true, true, true, true, true, true, false, false, false] c100) [.bot, .bot, .int .i64 z52, .bot, .bot, .bot, .bot, .bot, .bot, .slice z53, .bot, .bot, .bot, .bot, .bot, .bot, .bot, .bot, .bot, .bot, .bot, .bot, .bot, .bot, .bot, .bot, .bot, .bot, .bot, .bot, .bot, .bot, .bot, .bot, .bot, .bot, .bot, .bot, .bot, .bot, .bot, .bot, .bot, .bot, .bot, .bot, .bot, .bot, .bot, .bot, .bot, .bot, .bot, .bot, .bot, .bot, .bot, .bot, .bot, .bot, .bot, .bot, .bot, .bot, .bot, .bot, .bot, .bot, .bot, .bot, .bot, .bot] h60 (fun e54 env55 h56 =>
  exCase e54 (
    False
  ) fun i57 =>
  bif i57 == 0 then (
    chkSl (env55.getD 9 .bot) fun u58 =>
    K0 u58 h56
  ) else (
    False
  )
  ) = depotref23_Image_L0w z52 z53 h60 K0 := by kernel_rfl
theorem depotref23_Image_L0.go {z52 : Int} {z53 : Option Sl} {h60 : AH} {K0 : Option Sl → AH → Prop} (hh : depotref23_Image_L0w z52 z53 h60 K0) : depotref23_Image_L0 z52 z53 h60 K0 := step_loop' (depotref23_Image_L0.eq z52 z53 h60 K0) hh
def depotref23_Imagew (h__01 : Int) (h__12 : Int) (h__23 : Int) (h__34 : Int) (h__45 : Int) (payload_6 : Option Sl) (size_7 : Int) (h : AH) (K : Option Sl → Int → AH → Prop) : Prop :=
  new h (.cells [.int .i64 h__01, .int .i64 h__12, .int .i64 h__23, .int .i64 h__34, .int .i64 h__45] false) fun i9 h8 =>
    depotref23_sized size_7 h8 fun r12 h11 =>
      br (!r12) (
        K none 2 h11
      ) (
        ob (AH.cellsAt h11 i9 0 5) fun cs13 =>
        ints5 .i64 cs13 fun n14 n15 n16 n17 n18 =>
        depotref23_right n14 n15 n16 n17 n18 h11 fun r21 h20 =>
          br (r21 != 0) (
            K none r21 h20
          ) (
              br (decide (((lenO payload_6 : Nat) : Int) > (IntKind.wrap .i64 (size_7 - 16)))) (
                K none 4 h20
              ) (
                ob (AH.cell h20 i9 0) fun v22 =>
                chkInt .i64 v22 fun n23 =>
                ob (AH.cell h20 i9 1) fun v24 =>
                chkInt .i64 v24 fun n25 =>
                ob (AH.cell h20 i9 2) fun v26 =>
                chkInt .i64 v26 fun n27 =>
                new h20 (.cells [.int .u8 (IntKind.wrap .u8 n23), .int .u8 (IntKind.wrap .u8 n25), .int .u8 (IntKind.wrap .u8 n27), .int .u8 165] false) fun i29 h28 =>
                  ob (AH.cell h28 i9 3) fun v30 =>
                  chkInt .i64 v30 fun n31 =>
                  depotref03_Put (some ⟨i29, 0, 4, 4, none⟩) n31 4 h28 fun r_034 r_135 h33 =>
                    ob (AH.cell h33 i9 4) fun v36 =>
                    chkInt .i64 v36 fun n37 =>
                    new h33 (.cells [.int .u8 (IntKind.wrap .u8 n37), .int .u8 0] false) fun i39 h38 =>
                    aNews h38 1 (.slice (some ⟨i39, 0, 2, 2, none⟩)) fun x40 n41 =>
                    guardR (x40.all AV.scal && true && true) <|
                    aAppend h38 1 1 r_034 x40 n41 fun s42 h43 =>
                      depotref03_Put s42 ((lenO payload_6 : Nat) : Int) 2 h43 fun r_046 r_147 h45 =>
                        aNews h45 1 (.slice payload_6) fun x48 n49 =>
                        guardR (x48.all AV.scal && true && true) <|
                        aAppend h45 1 1 r_046 x48 n49 fun s50 h51 =>
                          depotref23_Image_L0 size_7 s50 h51
                            (fun u68 h67 =>
                              depotref04_Sum u68 h67 fun r71 h70 =>
                              depotref03_Put u68 r71 4 h70 fun r_074 r_175 h73 =>
                                K r_074 0 h73
                            )
              )
          )
      )
theorem depotref23_Image.eq (h__01 : Int) (h__12 : Int) (h__23 : Int) (h__34 : Int) (h__45 : Int) (payload_6 : Option Sl) (size_7 : Int) (h : AH) (K : Option Sl → Int → AH → Prop) : fstep PR (ACall PR M) (ALoop PR M) M 100 [.agg [.int .i64 h__01, .int .i64 h__12, .int .i64 h__23, .int .i64 h__34, .int .i64 h__45], .slice payload_6, .int .i64 size_7] h (fun v1 h2 =>
  asTup v1 fun l3 =>
  asCons l3 fun v4 l5 =>
  chkSl v4 fun x6 =>
  asCons l5 fun v7 l8 =>
  chkInt .i64 v7 fun n9 =>
  asNil l8 <|
  K x6 n9 h2
  ) = depotref23_Imagew h__01 h__12 h__23 h__34 h__45 payload_6 size_7 h K := by kernel_rfl
theorem depotref23_Image.go {h__01 : Int} {h__12 : Int} {h__23 : Int} {h__34 : Int} {h__45 : Int} {payload_6 : Option Sl} {size_7 : Int} {h : AH} {K : Option Sl → Int → AH → Prop} (hh : depotref23_Imagew h__01 h__12 h__23 h__34 h__45 payload_6 size_7 h K) : depotref23_Image h__01 h__12 h__23 h__34 h__45 payload_6 size_7 h K := step_call (depotref23_Image.eq h__01 h__12 h__23 h__34 h__45 payload_6 size_7 h K) hh

/-! depot/page.sized -/
noncomputable def c101 : Code := bodyOf PR.funcs[101]?
def page_sizedw (n_1 : Int) (h : AH) (K : Bool → AH → Prop) : Prop :=
  br (decide (n_1 ≥ 64)) (
    K (decide (n_1 ≤ 512)) h
  ) (
    K false h
  )
theorem page_sized.eq (n_1 : Int) (h : AH) (K : Bool → AH → Prop) : fstep PR (ACall PR M) (ALoop PR M) M 101 [.int .i64 n_1] h (fun v1 h2 =>
  chkBool v1 fun b3 =>
  K b3 h2
  ) = page_sizedw n_1 h K := by kernel_rfl
theorem page_sized.go {n_1 : Int} {h : AH} {K : Bool → AH → Prop} (hh : page_sizedw n_1 h K) : page_sized n_1 h K := step_call (page_sized.eq n_1 h K) hh

/-! depot/crc.Check -/
noncomputable def c102 : Code := bodyOf PR.funcs[102]?
def crc_Checkw (b_1 : Option Sl) (sum_2 : Int) (h : AH) (K : Bool → AH → Prop) : Prop :=
  crc_Sum b_1 h fun r5 h4 =>
    K (r5 == sum_2) h4
theorem crc_Check.eq (b_1 : Option Sl) (sum_2 : Int) (h : AH) (K : Bool → AH → Prop) : fstep PR (ACall PR M) (ALoop PR M) M 102 [.slice b_1, .int .i64 sum_2] h (fun v1 h2 =>
  chkBool v1 fun b3 =>
  K b3 h2
  ) = crc_Checkw b_1 sum_2 h K := by kernel_rfl
theorem crc_Check.go {b_1 : Option Sl} {sum_2 : Int} {h : AH} {K : Bool → AH → Prop} (hh : crc_Checkw b_1 sum_2 h K) : crc_Check b_1 sum_2 h K := step_call (crc_Check.eq b_1 sum_2 h K) hh

/-! depot/page.at -/
noncomputable def c103 : Code := bodyOf PR.funcs[103]?
def page_atw (b_1 : Option Sl) (from_2 : Int) (width_3 : Int) (h : AH) (K : Int → AH → Prop) : Prop :=
  wire_Get b_1 from_2 width_3 h fun r_06 r_17 h5 =>
    K r_06 h5
theorem page_at.eq (b_1 : Option Sl) (from_2 : Int) (width_3 : Int) (h : AH) (K : Int → AH → Prop) : fstep PR (ACall PR M) (ALoop PR M) M 103 [.slice b_1, .int .i64 from_2, .int .i64 width_3] h (fun v1 h2 =>
  chkInt .i64 v1 fun n3 =>
  K n3 h2
  ) = page_atw b_1 from_2 width_3 h K := by kernel_rfl
theorem page_at.go {b_1 : Option Sl} {from_2 : Int} {width_3 : Int} {h : AH} {K : Int → AH → Prop} (hh : page_atw b_1 from_2 width_3 h K) : page_at b_1 from_2 width_3 h K := step_call (page_at.eq b_1 from_2 width_3 h K) hh

/-! depot/page.Room -/
noncomputable def c104 : Code := bodyOf PR.funcs[104]?
def page_Roomw (size_1 : Int) (h : AH) (K : Int → AH → Prop) : Prop :=
  page_sized size_1 h fun r4 h3 =>
    br (!r4) (
      K 0 h3
    ) (
        K (IntKind.wrap .i64 (size_1 - 16)) h3
    )
theorem page_Room.eq (size_1 : Int) (h : AH) (K : Int → AH → Prop) : fstep PR (ACall PR M) (ALoop PR M) M 104 [.int .i64 size_1] h (fun v1 h2 =>
  chkInt .i64 v1 fun n3 =>
  K n3 h2
  ) = page_Roomw size_1 h K := by kernel_rfl
theorem page_Room.go {size_1 : Int} {h : AH} {K : Int → AH → Prop} (hh : page_Roomw size_1 h K) : page_Room size_1 h K := step_call (page_Room.eq size_1 h K) hh

/-! depot/page.check -/
noncomputable def c105 : Code := bodyOf PR.funcs[105]?
def page_checkw (h__01 : Int) (h__12 : Int) (h__23 : Int) (h__34 : Int) (h__45 : Int) (h : AH) (K : Int → AH → Prop) : Prop :=
  new h (.cells [.int .i64 h__01, .int .i64 h__12, .int .i64 h__23, .int .i64 h__34, .int .i64 h__45] false) fun i7 h6 =>
    ob (AH.cell h6 i7 0) fun v8 =>
    chkInt .i64 v8 fun n9 =>
    br (decide (n9 < 1)) (
        K 16 h6
    ) (
      ob (AH.cell h6 i7 0) fun v10 =>
      chkInt .i64 v10 fun n11 =>
        br (decide (n11 > 4)) (
          K 16 h6
        ) (
          ob (AH.cell h6 i7 2) fun v12 =>
          chkInt .i64 v12 fun n13 =>
          br (decide (n13 < 1)) (
              K 3 h6
          ) (
            ob (AH.cell h6 i7 2) fun v14 =>
            chkInt .i64 v14 fun n15 =>
            br (decide (n15 > 16)) (
                K 3 h6
            ) (
              ob (AH.cell h6 i7 1) fun v16 =>
              chkInt .i64 v16 fun n17 =>
              br (decide (n17 < 0)) (
                  K 3 h6
              ) (
                ob (AH.cell h6 i7 1) fun v18 =>
                chkInt .i64 v18 fun n19 =>
                ob (AH.cell h6 i7 2) fun v20 =>
                chkInt .i64 v20 fun n21 =>
                  br (decide (n19 ≥ n21)) (
                    K 3 h6
                  ) (
                    ob (AH.cell h6 i7 3) fun v22 =>
                    chkInt .i64 v22 fun n23 =>
                    br (decide (n23 < 1)) (
                        K 3 h6
                    ) (
                      ob (AH.cell h6 i7 3) fun v24 =>
                      chkInt .i64 v24 fun n25 =>
                      br (decide (n25 > 1073741824)) (
                          K 3 h6
                      ) (
                        ob (AH.cell h6 i7 4) fun v26 =>
                        chkInt .i64 v26 fun n27 =>
                        br (decide (n27 < 0)) (
                            K 3 h6
                        ) (
                          ob (AH.cell h6 i7 4) fun v28 =>
                          chkInt .i64 v28 fun n29 =>
                            br (decide (n29 ≥ 16)) (
                              K 3 h6
                            ) (
                                K 0 h6
                            )
                        )
                      )
                    )
                  )
              )
            )
          )
        )
    )
theorem page_check.eq (h__01 : Int) (h__12 : Int) (h__23 : Int) (h__34 : Int) (h__45 : Int) (h : AH) (K : Int → AH → Prop) : fstep PR (ACall PR M) (ALoop PR M) M 105 [.agg [.int .i64 h__01, .int .i64 h__12, .int .i64 h__23, .int .i64 h__34, .int .i64 h__45]] h (fun v1 h2 =>
  chkInt .i64 v1 fun n3 =>
  K n3 h2
  ) = page_checkw h__01 h__12 h__23 h__34 h__45 h K := by kernel_rfl
theorem page_check.go {h__01 : Int} {h__12 : Int} {h__23 : Int} {h__34 : Int} {h__45 : Int} {h : AH} {K : Int → AH → Prop} (hh : page_checkw h__01 h__12 h__23 h__34 h__45 h K) : page_check h__01 h__12 h__23 h__34 h__45 h K := step_call (page_check.eq h__01 h__12 h__23 h__34 h__45 h K) hh

/-! depot/wire.of -/
noncomputable def c106 : Code := bodyOf PR.funcs[106]?
def wire_of_L0 (z6 : Int) (z7 : Option (Nat × Nat)) (z8 : Option (Nat × Nat)) (z9 : Int) (h14 : AH) (K0 : AH → Prop) : Prop := ALoop PR M (M 106) (sub [true, true, false, true, false, false] c106) [.int .i64 z6, .bot, .ptr z7, .ptr z8, .bot, .int .i64 z9, .bot, .bot, .bot, .bot, .bot, .bot, .bot, .bot, .bot, .bot, .bot] h14 fun e10 env11 h12 =>
  exCase e10 (
    False
  ) fun i13 =>
  bif i13 == 0 then (
    guardR (AV.beq (.ptr z7) (env11.getD 2 .bot)) <|
    guardR (AV.beq (.ptr z8) (env11.getD 3 .bot)) <|
    K0 h12
  ) else (
    False
  )
def wire_of_L0w (z6 : Int) (z7 : Option (Nat × Nat)) (z8 : Option (Nat × Nat)) (z9 : Int) (h14 : AH) (K0 : AH → Prop) : Prop :=
  br (decide (z9 < 8)) (
      if (IntKind.wrap .i64 (8 * z9)) < 0 then (
        False
      ) else (
        ob z8 fun a15 =>
        need ((0 : Int) ≤ z9 ∧ z9 < ((8 : Nat) : Int)) <|
        ob (AH.puts h14 a15.1 (a15.2 + Int.toNat z9 * 1) [.int .u8 (IntKind.wrap .u8 (Int.fdiv z6 (2 ^ (min (Int.toNat (IntKind.wrap .i64 (8 * z9))) (IntKind.bits .i64)))))]) fun h16 =>
          wire_of_L0 z6 z7 z8 (IntKind.wrap .i64 (z9 + 1)) h16 K0
      )
  ) (
    guardR (AV.beq (.ptr z7) (.ptr z7)) <|
    guardR (AV.beq (.ptr z8) (.ptr z8)) <|
    K0 h14
  )
theorem wire_of_L0.eq (z6 : Int) (z7 : Option (Nat × Nat)) (z8 : Option (Nat × Nat)) (z9 : Int) (h14 : AH) (K0 : AH → Prop) : lstep PR (ACall PR M) (ALoop PR M) (M 106) (sub [true, true, false, true, false, false] c106) [.int .i64 z6, .bot, .ptr z7, .ptr z8, .bot, .int .i64 z9, .bot, .bot, .bot, .bot, .bot, .bot, .bot, .bot, .bot, .bot, .bot] h14 (fun e10 env11 h12 =>
  exCase e10 (
    False
  ) fun i13 =>
  bif i13 == 0 then (
    guardR (AV.beq (.ptr z7) (env11.getD 2 .bot)) <|
    guardR (AV.beq (.ptr z8) (env11.getD 3 .bot)) <|
    K0 h12
  ) else (
    False
  )
  ) = wire_of_L0w z6 z7 z8 z9 h14 K0 := by kernel_rfl
theorem wire_of_L0.go {z6 : Int} {z7 : Option (Nat × Nat)} {z8 : Option (Nat × Nat)} {z9 : Int} {h14 : AH} {K0 : AH → Prop} (hh : wire_of_L0w z6 z7 z8 z9 h14 K0) : wire_of_L0 z6 z7 z8 z9 h14 K0 := step_loop' (wire_of_L0.eq z6 z7 z8 z9 h14 K0) hh
def wire_ofw (n_1 : Int) (h : AH) (K : Int → Int → Int → Int → Int → Int → Int → Int → AH → Prop) : Prop :=
  new h (.cells [.int .u8 0, .int .u8 0, .int .u8 0, .int .u8 0, .int .u8 0, .int .u8 0, .int .u8 0, .int .u8 0] false) fun i3 h2 =>
    new h2 (.cells [.int .u8 0, .int .u8 0, .int .u8 0, .int .u8 0, .int .u8 0, .int .u8 0, .int .u8 0, .int .u8 0] false) fun i5 h4 =>
      wire_of_L0 n_1 (some (i3, 0)) (some (i5, 0)) 0 h4
        (fun h17 =>
          ob (AH.cellsAt h17 i5 0 8) fun cs18 =>
          ints8 .u8 cs18 fun n19 n20 n21 n22 n23 n24 n25 n26 =>
          ob (AH.puts h17 i3 0 [.int .u8 n19, .int .u8 n20, .int .u8 n21, .int .u8 n22, .int .u8 n23, .int .u8 n24, .int .u8 n25, .int .u8 n26]) fun h27 =>
            ob (AH.cellsAt h27 i3 0 8) fun cs28 =>
            ints8 .u8 cs28 fun n29 n30 n31 n32 n33 n34 n35 n36 =>
            K n29 n30 n31 n32 n33 n34 n35 n36 h27
        )
theorem wire_of.eq (n_1 : Int) (h : AH) (K : Int → Int → Int → Int → Int → Int → Int → Int → AH → Prop) : fstep PR (ACall PR M) (ALoop PR M) M 106 [.int .i64 n_1] h (fun v1 h2 =>
  asAgg v1 fun l3 =>
  ints8 .u8 l3 fun n4 n5 n6 n7 n8 n9 n10 n11 =>
  K n4 n5 n6 n7 n8 n9 n10 n11 h2
  ) = wire_ofw n_1 h K := by kernel_rfl
theorem wire_of.go {n_1 : Int} {h : AH} {K : Int → Int → Int → Int → Int → Int → Int → Int → AH → Prop} (hh : wire_ofw n_1 h K) : wire_of n_1 h K := step_call (wire_of.eq n_1 h K) hh

/-! depot/flash.blank -/
noncomputable def c109 : Code := bodyOf PR.funcs[109]?
def flash_blank_L0 (z4 : Option Sl) (z5 : Int) (z6 : Int) (h11 : AH) (K0 : AH → Prop) : Prop := ALoop PR M (M 109) (sub [true, true, false, true, false, false] c109) [.bot, .bot, .bot, .slice z4, .bot, .bot, .bot, .bot, .int .i64 z5, .int .i64 z6, .bot, .bot, .bot, .bot, .bot, .bot, .bot] h11 fun e7 env8 h9 =>
  exCase e7 (
    False
  ) fun i10 =>
  bif i10 == 0 then (
    guardR (AV.beq (.slice z4) (env8.getD 3 .bot)) <|
    K0 h9
  ) else (
    False
  )
def flash_blank_L0w (z4 : Option Sl) (z5 : Int) (z6 : Int) (h11 : AH) (K0 : AH → Prop) : Prop :=
  br (decide (z6 < z5)) (
      ob z4 fun s12 =>
      need ((0 : Int) ≤ z6 ∧ z6 < ((s12.len : Nat) : Int)) <|
      ob (AH.puts h11 s12.id (s12.off + Int.toNat z6 * 1) [.int .u8 255]) fun h13 =>
        flash_blank_L0 z4 z5 (IntKind.wrap .i64 (z6 + 1)) h13 K0
  ) (
    guardR (AV.beq (.slice z4) (.slice z4)) <|
    K0 h11
  )
theorem flash_blank_L0.eq (z4 : Option Sl) (z5 : Int) (z6 : Int) (h11 : AH) (K0 : AH → Prop) : lstep PR (ACall PR M) (ALoop PR M) (M 109) (sub [true, true, false, true, false, false] c109) [.bot, .bot, .bot, .slice z4, .bot, .bot, .bot, .bot, .int .i64 z5, .int .i64 z6, .bot, .bot, .bot, .bot, .bot, .bot, .bot] h11 (fun e7 env8 h9 =>
  exCase e7 (
    False
  ) fun i10 =>
  bif i10 == 0 then (
    guardR (AV.beq (.slice z4) (env8.getD 3 .bot)) <|
    K0 h9
  ) else (
    False
  )
  ) = flash_blank_L0w z4 z5 z6 h11 K0 := by kernel_rfl
theorem flash_blank_L0.go {z4 : Option Sl} {z5 : Int} {z6 : Int} {h11 : AH} {K0 : AH → Prop} (hh : flash_blank_L0w z4 z5 z6 h11 K0) : flash_blank_L0 z4 z5 z6 h11 K0 := step_loop' (flash_blank_L0.eq z4 z5 z6 h11 K0) hh
def flash_blankw (size_1 : Int) (h : AH) (K : Option Sl → AH → Prop) : Prop :=
  need ((0 : Int) ≤ size_1 ∧ size_1 ≤ size_1 ∧ size_1 ≤ 1099511627776 ∧ 1 ≤ 128) <|
  new h (.cells (repZero [.int .u8 0] (Int.toNat size_1)) false) fun i3 h2 =>
    flash_blank_L0 (some ⟨i3, 0, Int.toNat size_1, Int.toNat size_1, none⟩) ((Sl.len ⟨i3, 0, Int.toNat size_1, Int.toNat size_1, none⟩ : Nat) : Int) 0 h2
      (fun h14 =>
          K (some ⟨i3, 0, Int.toNat size_1, Int.toNat size_1, none⟩) h14
      )
theorem flash_blank.eq (size_1 : Int) (h : AH) (K : Option Sl → AH → Prop) : fstep PR (ACall PR M) (ALoop PR M) M 109 [.int .i64 size_1] h (fun v1 h2 =>
  chkSl v1 fun x3 =>
  K x3 h2
  ) = flash_blankw size_1 h K := by kernel_rfl
theorem flash_blank.go {size_1 : Int} {h : AH} {K : Option Sl → AH → Prop} (hh : flash_blankw size_1 h K) : flash_blank size_1 h K := step_call (flash_blank.eq size_1 h K) hh

/-! depot/page.Image -/
noncomputable def c110 : Code := bodyOf PR.funcs[110]?
def page_Imagew (h__01 : Int) (h__12 : Int) (h__23 : Int) (h__34 : Int) (h__45 : Int) (payload_6 : Option Sl) (size_7 : Int) (h : AH) (K : Option Sl → Int → AH → Prop) : Prop :=
  new h (.cells [.int .i64 h__01, .int .i64 h__12, .int .i64 h__23, .int .i64 h__34, .int .i64 h__45] false) fun i9 h8 =>
    page_sized size_7 h8 fun r12 h11 =>
      br (!r12) (
        K none 2 h11
      ) (
        ob (AH.cellsAt h11 i9 0 5) fun cs13 =>
        ints5 .i64 cs13 fun n14 n15 n16 n17 n18 =>
        page_check n14 n15 n16 n17 n18 h11 fun r21 h20 =>
          br (r21 != 0) (
            K none r21 h20
          ) (
            page_Room size_7 h20 fun r24 h23 =>
              br (decide (((lenO payload_6 : Nat) : Int) > r24)) (
                K none 4 h23
              ) (
                ob (AH.cell h23 i9 0) fun v25 =>
                chkInt .i64 v25 fun n26 =>
                ob (AH.cell h23 i9 1) fun v27 =>
                chkInt .i64 v27 fun n28 =>
                ob (AH.cell h23 i9 2) fun v29 =>
                chkInt .i64 v29 fun n30 =>
                ob (AH.cell h23 i9 3) fun v31 =>
                chkInt .i64 v31 fun n32 =>
                ob (AH.cell h23 i9 4) fun v33 =>
                chkInt .i64 v33 fun n34 =>
                new h23 (.cells [.int .i64 n26, .int .i64 1, .int .i64 n28, .int .i64 1, .int .i64 n30, .int .i64 1, .int .i64 165, .int .i64 1, .int .i64 n32, .int .i64 4, .int .i64 n34, .int .i64 1, .int .i64 0, .int .i64 1, .int .i64 ((lenO payload_6 : Nat) : Int), .int .i64 2] false) fun i36 h35 =>
                page_put none (some ⟨i36, 0, 8, 8, none⟩) h35 fun r39 h38 =>
                  need ((0 : Int) ≤ IntKind.wrap .i64 (size_7 - 4) ∧ IntKind.wrap .i64 (size_7 - 4) ≤ IntKind.wrap .i64 (size_7 - 4) ∧ IntKind.wrap .i64 (size_7 - 4) ≤ 1099511627776 ∧ 1 ≤ 128) <|
                  new h38 (.cells (repZero [.int .u8 0] (Int.toNat (IntKind.wrap .i64 (size_7 - 4)))) false) fun i41 h40 =>
                    lt (⟨i41, 0, Int.toNat (IntKind.wrap .i64 (size_7 - 4)), Int.toNat (IntKind.wrap .i64 (size_7 - 4)), none⟩ : Sl) fun d44 =>
                    aNews h40 1 (.slice r39) fun x46 n47 =>
                    guardR (x46.all AV.scal) <|
                    ob (if min n47 d44.len = 0 then some h40 else AH.puts h40 d44.id d44.off (x46.take (min n47 d44.len * 1))) fun h45 =>
                    need ((0 : Int) ≤ (min ((n47 : Nat) : Int) ((d44.len : Nat) : Int)) ∧ (min ((n47 : Nat) : Int) ((d44.len : Nat) : Int)) ≤ ((Sl.len ⟨i41, 0, Int.toNat (IntKind.wrap .i64 (size_7 - 4)), Int.toNat (IntKind.wrap .i64 (size_7 - 4)), none⟩ : Nat) : Int)) <|
                    guardR (Sl.cutOk 1 ⟨i41, 0, Int.toNat (IntKind.wrap .i64 (size_7 - 4)), Int.toNat (IntKind.wrap .i64 (size_7 - 4)), none⟩) <|
                    lt ((Sl.cut 1 (Int.toNat (min ((n47 : Nat) : Int) ((d44.len : Nat) : Int))) (Sl.len ⟨i41, 0, Int.toNat (IntKind.wrap .i64 (size_7 - 4)), Int.toNat (IntKind.wrap .i64 (size_7 - 4)), none⟩) ⟨i41, 0, Int.toNat (IntKind.wrap .i64 (size_7 - 4)), Int.toNat (IntKind.wrap .i64 (size_7 - 4)), none⟩) : Sl) fun d50 =>
                    aNews h45 1 (.slice payload_6) fun x52 n53 =>
                    guardR (x52.all AV.scal) <|
                    ob (if min n53 d50.len = 0 then some h45 else AH.puts h45 d50.id d50.off (x52.take (min n53 d50.len * 1))) fun h51 =>
                      crc_Sum (some ⟨i41, 0, Int.toNat (IntKind.wrap .i64 (size_7 - 4)), Int.toNat (IntKind.wrap .i64 (size_7 - 4)), none⟩) h51 fun r56 h55 =>
                      new h55 (.cells [.int .i64 r56, .int .i64 4] false) fun i58 h57 =>
                      page_put (some ⟨i41, 0, Int.toNat (IntKind.wrap .i64 (size_7 - 4)), Int.toNat (IntKind.wrap .i64 (size_7 - 4)), none⟩) (some ⟨i58, 0, 1, 1, none⟩) h57 fun r61 h60 =>
                        K r61 0 h60
              )
          )
      )
theorem page_Image.eq (h__01 : Int) (h__12 : Int) (h__23 : Int) (h__34 : Int) (h__45 : Int) (payload_6 : Option Sl) (size_7 : Int) (h : AH) (K : Option Sl → Int → AH → Prop) : fstep PR (ACall PR M) (ALoop PR M) M 110 [.agg [.int .i64 h__01, .int .i64 h__12, .int .i64 h__23, .int .i64 h__34, .int .i64 h__45], .slice payload_6, .int .i64 size_7] h (fun v1 h2 =>
  asTup v1 fun l3 =>
  asCons l3 fun v4 l5 =>
  chkSl v4 fun x6 =>
  asCons l5 fun v7 l8 =>
  chkInt .i64 v7 fun n9 =>
  asNil l8 <|
  K x6 n9 h2
  ) = page_Imagew h__01 h__12 h__23 h__34 h__45 payload_6 size_7 h K := by kernel_rfl
theorem page_Image.go {h__01 : Int} {h__12 : Int} {h__23 : Int} {h__34 : Int} {h__45 : Int} {payload_6 : Option Sl} {size_7 : Int} {h : AH} {K : Option Sl → Int → AH → Prop} (hh : page_Imagew h__01 h__12 h__23 h__34 h__45 payload_6 size_7 h K) : page_Image h__01 h__12 h__23 h__34 h__45 payload_6 size_7 h K := step_call (page_Image.eq h__01 h__12 h__23 h__34 h__45 payload_6 size_7 h K) hh

/-! (*depot/flash.Flash).Program -/
noncomputable def c111 : Code := bodyOf PR.funcs[111]?
def flash_Flash_Programw (f_1 : Option (Nat × Nat)) (b_2 : Int) (p_3 : Int) (data_4 : Option Sl) (h : AH) (K : Int → AH → Prop) : Prop :=
  flash_Flash_find f_1 b_2 p_3 h fun r_07 r_18 h6 =>
    br (r_18 != 0) (
      K r_18 h6
    ) (
      ob f_1 fun a9 =>
      ob (AH.cell h6 a9.1 (a9.2 + 3 + 2)) fun v10 =>
      chkInt .i64 v10 fun n11 =>
        br (((lenO data_4 : Nat) : Int) != n11) (
          K 2 h6
        ) (
          ob r_07 fun a12 =>
          ob (AH.cell h6 a12.1 (a12.2 + 3)) fun v13 =>
          chkBool v13 fun b14 =>
            br b14 (
              K 10 h6
            ) (
              ob r_07 fun a15 =>
              ob (AH.cell h6 a15.1 (a15.2 + 1)) fun v16 =>
              chkInt .i64 v16 fun n17 =>
                br (n17 != p_3) (
                  K 9 h6
                ) (
                  ob f_1 fun a18 =>
                  ob (AH.cell h6 a18.1 (a18.2 + 3 + 2)) fun v19 =>
                  chkInt .i64 v19 fun n20 =>
                  flash_blank n20 h6 fun r23 h22 =>
                    ob r_07 fun a24 =>
                    ob (AH.cell h22 a24.1 a24.2) fun v25 =>
                    chkSl v25 fun x26 =>
                    ob x26 fun s27 =>
                    need ((0 : Int) ≤ p_3 ∧ p_3 < ((s27.len : Nat) : Int)) <|
                    ob (AH.puts h22 s27.id (s27.off + Int.toNat p_3 * 1) [.slice r23]) fun h28 =>
                      ob r_07 fun a29 =>
                      ob (AH.cell h28 a29.1 (a29.2 + 1)) fun v30 =>
                      chkInt .i64 v30 fun n31 =>
                      ob r_07 fun a32 =>
                      ob (AH.puts h28 a32.1 (a32.2 + 1) [.int .i64 (IntKind.wrap .i64 (n31 + 1))]) fun h33 =>
                        hold h33 0 fun h34 =>
                        ob f_1 fun a35 =>
                        ob (AH.cell h34 a35.1 (a35.2 + 8)) fun v36 =>
                        chkInt .i64 v36 fun n37 =>
                        ob f_1 fun a38 =>
                        ob (AH.cell h34 a38.1 (a38.2 + 3 + 2)) fun v39 =>
                        chkInt .i64 v39 fun n40 =>
                        ob f_1 fun a41 =>
                        ob (AH.puts h34 a41.1 (a41.2 + 8) [.int .i64 (IntKind.wrap .i64 (n37 + n40))]) fun h42 =>
                          ob f_1 fun a43 =>
                          flash_tearer_tears (some (a43.1, a43.2)) h42 fun r46 h45 =>
                            br (!r46) (
                              onSl r23 (
                                aNews h45 1 (.slice data_4) fun _ _ =>
                                  K 0 h45
                              ) fun d49 => (
                                aNews h45 1 (.slice data_4) fun x51 n52 =>
                                guardR (x51.all AV.scal) <|
                                ob (if min n52 d49.len = 0 then some h45 else AH.puts h45 d49.id d49.off (x51.take (min n52 d49.len * 1))) fun h50 =>
                                  K 0 h50
                              )
                            ) (
                              hold h45 0 fun h53 =>
                              ob f_1 fun a54 =>
                              ob f_1 fun a55 =>
                              ob (AH.cell h53 a55.1 (a55.2 + 3 + 2)) fun v56 =>
                              chkInt .i64 v56 fun n57 =>
                              flash_tearer_kept (some (a54.1, a54.2)) n57 h53 fun r60 h59 =>
                              need ((0 : Int) ≤ r60 ∧ r60 ≤ ((lenO data_4 : Nat) : Int)) <|
                              guardR (cutOkO 1 data_4) <|
                              onSl r23 (
                                aNews h59 1 (.slice (cutO 1 0 (Int.toNat r60) data_4)) fun _ _ =>
                                  hold h59 3 fun h67 =>
                                  ob f_1 fun a68 =>
                                  ob (AH.cell h67 a68.1 (a68.2 + 9)) fun v69 =>
                                  chkSl v69 fun x70 =>
                                  birth h67 (h59.length + 0) (.cells [] false) fun h71 =>
                                  aNews h71 1 (.slice data_4) fun x72 n73 =>
                                  guardR (x72.all AV.scal && true && true) <|
                                  aAppend h71 1 1 (some ⟨(h59.length + 0), 0, 0, 0, none⟩) x72 n73 fun s74 h75 =>
                                  guardR (Req.ok h75 (.cells a68.1 (a68.2 + 9) 1 [.slice x70]) && true) <|
                                  birth h75 (h59.length + 1) (.cells [] false) fun h76 =>
                                  aNews h76 1 (.slice r23) fun x77 n78 =>
                                  guardR (x77.all AV.scal && true && true) <|
                                  aAppend h76 1 1 (some ⟨(h59.length + 1), 0, 0, 0, none⟩) x77 n78 fun s79 h80 =>
                                  guardR (Req.ok h80 (.cells a68.1 (a68.2 + 9) 1 [.slice x70]) && true) <|
                                  birth h80 (h59.length + 2) (.cells [.int .i64 b_2, .int .i64 p_3, .slice s74, .slice s79] false) fun h81 =>
                                  aNews h81 4 (.slice (some ⟨(h59.length + 2), 0, 1, 1, none⟩)) fun x82 n83 =>
                                  guardR (x82.all AV.scal && true && true) <|
                                  aAppend h81 4 64 x70 x82 n83 fun s84 h85 =>
                                  ob f_1 fun a86 =>
                                  ob (AH.puts h85 a86.1 (a86.2 + 9) [.slice s84]) fun h87 =>
                                    K 11 h87
                              ) fun d63 => (
                                aNews h59 1 (.slice (cutO 1 0 (Int.toNat r60) data_4)) fun x65 n66 =>
                                guardR (x65.all AV.scal) <|
                                ob (if min n66 d63.len = 0 then some h59 else AH.puts h59 d63.id d63.off (x65.take (min n66 d63.len * 1))) fun h64 =>
                                  hold h64 3 fun h88 =>
                                  ob f_1 fun a89 =>
                                  ob (AH.cell h88 a89.1 (a89.2 + 9)) fun v90 =>
                                  chkSl v90 fun x91 =>
                                  birth h88 (h64.length + 0) (.cells [] false) fun h92 =>
                                  aNews h92 1 (.slice data_4) fun x93 n94 =>
                                  guardR (x93.all AV.scal && true && true) <|
                                  aAppend h92 1 1 (some ⟨(h64.length + 0), 0, 0, 0, none⟩) x93 n94 fun s95 h96 =>
                                  guardR (Req.ok h96 (.cells a89.1 (a89.2 + 9) 1 [.slice x91]) && true) <|
                                  birth h96 (h64.length + 1) (.cells [] false) fun h97 =>
                                  aNews h97 1 (.slice r23) fun x98 n99 =>
                                  guardR (x98.all AV.scal && true && true) <|
                                  aAppend h97 1 1 (some ⟨(h64.length + 1), 0, 0, 0, none⟩) x98 n99 fun s100 h101 =>
                                  guardR (Req.ok h101 (.cells a89.1 (a89.2 + 9) 1 [.slice x91]) && true) <|
                                  birth h101 (h64.length + 2) (.cells [.int .i64 b_2, .int .i64 p_3, .slice s95, .slice s100] false) fun h102 =>
                                  aNews h102 4 (.slice (some ⟨(h64.length + 2), 0, 1, 1, none⟩)) fun x103 n104 =>
                                  guardR (x103.all AV.scal && true && true) <|
                                  aAppend h102 4 64 x91 x103 n104 fun s105 h106 =>
                                  ob f_1 fun a107 =>
                                  ob (AH.puts h106 a107.1 (a107.2 + 9) [.slice s105]) fun h108 =>
                                    K 11 h108
                              )
                            )
                )
            )
        )
    )
theorem flash_Flash_Program.eq (f_1 : Option (Nat × Nat)) (b_2 : Int) (p_3 : Int) (data_4 : Option Sl) (h : AH) (K : Int → AH → Prop) : fstep PR (ACall PR M) (ALoop PR M) M 111 [.ptr f_1, .int .i64 b_2, .int .i64 p_3, .slice data_4] h (fun v1 h2 =>
  chkInt .i64 v1 fun n3 =>
  K n3 h2
  ) = flash_Flash_Programw f_1 b_2 p_3 data_4 h K := by kernel_rfl
theorem flash_Flash_Program.go {f_1 : Option (Nat × Nat)} {b_2 : Int} {p_3 : Int} {data_4 : Option Sl} {h : AH} {K : Int → AH → Prop} (hh : flash_Flash_Programw f_1 b_2 p_3 data_4 h K) : flash_Flash_Program f_1 b_2 p_3 data_4 h K := step_call (flash_Flash_Program.eq f_1 b_2 p_3 data_4 h K) hh

/-! (*depot/flash.Flash).at -/
noncomputable def c113 : Code := bodyOf PR.funcs[113]?
def flash_Flash_atw (f_1 : Option (Nat × Nat)) (b_2 : Int) (h : AH) (K : Option (Nat × Nat) → AH → Prop) : Prop :=
  br (Option.isNone f_1) (
      K none h
  ) (
    ob f_1 fun a3 =>
    ob (AH.cell h a3.1 (a3.2 + 7)) fun v4 =>
    chkSl v4 fun x5 =>
    flash_within b_2 0 (IntKind.wrap .i64 (((lenO x5 : Nat) : Int) - 1)) h fun r8 h7 =>
      br (!r8) (
        K none h7
      ) (
        ob f_1 fun a9 =>
        ob (AH.cell h7 a9.1 (a9.2 + 7)) fun v10 =>
        chkSl v10 fun x11 =>
        ob x11 fun s12 =>
        need ((0 : Int) ≤ b_2 ∧ b_2 < ((s12.len : Nat) : Int)) <|
        ob (AH.cell h7 s12.id (s12.off + Int.toNat b_2 * 1)) fun v13 =>
        chkPtr v13 fun p14 =>
          K p14 h7
      )
  )
theorem flash_Flash_at.eq (f_1 : Option (Nat × Nat)) (b_2 : Int) (h : AH) (K : Option (Nat × Nat) → AH → Prop) : fstep PR (ACall PR M) (ALoop PR M) M 113 [.ptr f_1, .int .i64 b_2] h (fun v1 h2 =>
  chkPtr v1 fun p3 =>
  K p3 h2
  ) = flash_Flash_atw f_1 b_2 h K := by kernel_rfl
theorem flash_Flash_at.go {f_1 : Option (Nat × Nat)} {b_2 : Int} {h : AH} {K : Option (Nat × Nat) → AH → Prop} (hh : flash_Flash_atw f_1 b_2 h K) : flash_Flash_at f_1 b_2 h K := step_call (flash_Flash_at.eq f_1 b_2 h K) hh

/-! depot/depotref04.More -/
noncomputable def c114 : Code := bodyOf PR.funcs[114]?
def depotref04_More_L0 (z6 : Option Sl) (z7 : Int) (z8 : Int) (h15 : AH) (K0 : Int → AH → Prop) : Prop := ALoop PR M (M 114) (sub [true, true, false, true, false, false] c114) [.bot, .slice z6, .bot, .bot, .bot, .int .i64 z7, .int .i64 z8, .bot, .bot, .bot, .bot, .bot, .bot, .bot, .bot, .bot, .bot, .bot, .bot, .bot, .bot, .bot, .bot, .bot, .bot, .bot, .bot] h15 fun e9 env10 h11 =>
  exCase e9 (
    False
  ) fun i12 =>
  bif i12 == 0 then (
    chkInt .i64 (env10.getD 5 .bot) fun u13 =>
    K0 u13 h11
  ) else (
    False
  )
def depotref04_More_L0w (z6 : Option Sl) (z7 : Int) (z8 : Int) (h15 : AH) (K0 : Int → AH → Prop) : Prop :=
  br (decide (z8 < ((lenO z6 : Nat) : Int))) (
    ob z6 fun s16 =>
    need ((0 : Int) ≤ z8 ∧ z8 < ((s16.len : Nat) : Int)) <|
    ob (AH.cell h15 s16.id (s16.off + Int.toNat z8 * 1)) fun v17 =>
    chkInt .u8 v17 fun n18 =>
    depotref04_Step z7 n18 h15 fun r21 h20 =>
      depotref04_More_L0 z6 r21 (IntKind.wrap .i64 (z8 + 1)) h20 K0
  ) (
    K0 z7 h15
  )
theorem depotref04_More_L0.eq (z6 : Option Sl) (z7 : Int) (z8 : Int) (h15 : AH) (K0 : Int → AH → Prop) : lstep PR (ACall PR M) (ALoop PR M) (M 114) (sub [true, true, false, true, false, false] c114) [.bot, .slice z6, .bot, .bot, .bot, .int .i64 z7, .int .i64 z8, .bot, .bot, .bot, .bot, .bot, .bot, .bot, .bot, .bot, .bot, .bot, .bot, .bot, .bot, .bot, .bot, .bot, .bot, .bot, .bot] h15 (fun e9 env10 h11 =>
  exCase e9 (
    False
  ) fun i12 =>
  bif i12 == 0 then (
    chkInt .i64 (env10.getD 5 .bot) fun u13 =>
    K0 u13 h11
  ) else (
    False
  )
  ) = depotref04_More_L0w z6 z7 z8 h15 K0 := by kernel_rfl
theorem depotref04_More_L0.go {z6 : Option Sl} {z7 : Int} {z8 : Int} {h15 : AH} {K0 : Int → AH → Prop} (hh : depotref04_More_L0w z6 z7 z8 h15 K0) : depotref04_More_L0 z6 z7 z8 h15 K0 := step_loop' (depotref04_More_L0.eq z6 z7 z8 h15 K0) hh
def depotref04_Morew (sum_1 : Int) (b_2 : Option Sl) (h : AH) (K : Int → AH → Prop) : Prop :=
  depotref04_low sum_1 h fun r5 h4 =>
    depotref04_More_L0 b_2 (IntKind.wrap .i64 (IntKind.wrap .u32 (BitVec.ofInt (IntKind.bits .u32) (if IntKind.signed .u32 then -1 else IntKind.max .u32) ^^^ BitVec.ofInt (IntKind.bits .u32) r5).toNat)) 0 h4
      (fun u23 h22 =>
        depotref04_low u23 h22 fun r26 h25 =>
          K (IntKind.wrap .i64 (IntKind.wrap .u32 (BitVec.ofInt (IntKind.bits .u32) (if IntKind.signed .u32 then -1 else IntKind.max .u32) ^^^ BitVec.ofInt (IntKind.bits .u32) r26).toNat)) h25
      )
theorem depotref04_More.eq (sum_1 : Int) (b_2 : Option Sl) (h : AH) (K : Int → AH → Prop) : fstep PR (ACall PR M) (ALoop PR M) M 114 [.int .i64 sum_1, .slice b_2] h (fun v1 h2 =>
  chkInt .i64 v1 fun n3 =>
  K n3 h2
  ) = depotref04_Morew sum_1 b_2 h K := by kernel_rfl
theorem depotref04_More.go {sum_1 : Int} {b_2 : Option Sl} {h : AH} {K : Int → AH → Prop} (hh : depotref04_Morew sum_1 b_2 h K) : depotref04_More sum_1 b_2 h K := step_call (depotref04_More.eq sum_1 b_2 h K) hh

/-! depot/depotref23.right -/
noncomputable def c115 : Code := bodyOf PR.funcs[115]?
def depotref23_rightw (h__01 : Int) (h__12 : Int) (h__23 : Int) (h__34 : Int) (h__45 : Int) (h : AH) (K : Int → AH → Prop) : Prop :=
  new h (.cells [.int .i64 h__01, .int .i64 h__12, .int .i64 h__23, .int .i64 h__34, .int .i64 h__45] false) fun i7 h6 =>
    ob (AH.cell h6 i7 0) fun v8 =>
    chkInt .i64 v8 fun n9 =>
    br (decide (n9 < 1)) (
        K 16 h6
    ) (
      ob (AH.cell h6 i7 0) fun v10 =>
      chkInt .i64 v10 fun n11 =>
        br (decide (n11 > 4)) (
          K 16 h6
        ) (
          ob (AH.cell h6 i7 2) fun v12 =>
          chkInt .i64 v12 fun n13 =>
          br (decide (n13 < 1)) (
              K 3 h6
          ) (
            ob (AH.cell h6 i7 2) fun v14 =>
            chkInt .i64 v14 fun n15 =>
            br (decide (n15 > 16)) (
                K 3 h6
            ) (
              ob (AH.cell h6 i7 1) fun v16 =>
              chkInt .i64 v16 fun n17 =>
              br (decide (n17 < 0)) (
                  K 3 h6
              ) (
                ob (AH.cell h6 i7 1) fun v18 =>
                chkInt .i64 v18 fun n19 =>
                ob (AH.cell h6 i7 2) fun v20 =>
                chkInt .i64 v20 fun n21 =>
                br (decide (n19 ≥ n21)) (
                    K 3 h6
                ) (
                  ob (AH.cell h6 i7 3) fun v22 =>
                  chkInt .i64 v22 fun n23 =>
                  br (decide (n23 < 1)) (
                      K 3 h6
                  ) (
                    ob (AH.cell h6 i7 3) fun v24 =>
                    chkInt .i64 v24 fun n25 =>
                    br (decide (n25 > 1073741824)) (
                        K 3 h6
                    ) (
                      ob (AH.cell h6 i7 4) fun v26 =>
                      chkInt .i64 v26 fun n27 =>
                      br (decide (n27 < 0)) (
                          K 3 h6
                      ) (
                        ob (AH.cell h6 i7 4) fun v28 =>
                        chkInt .i64 v28 fun n29 =>
                          br (decide (n29 > 15)) (
                            K 3 h6
                          ) (
                              K 0 h6
                          )
                      )
                    )
                  )
                )
              )
            )
          )
        )
    )
theorem depotref23_right.eq (h__01 : Int) (h__12 : Int) (h__23 : Int) (h__34 : Int) (h__45 : Int) (h : AH) (K : Int → AH → Prop) : fstep PR (ACall PR M) (ALoop PR M) M 115 [.agg [.int .i64 h__01, .int .i64 h__12, .int .i64 h__23, .int .i64 h__34, .int .i64 h__45]] h (fun v1 h2 =>
  chkInt .i64 v1 fun n3 =>
  K n3 h2
  ) = depotref23_rightw h__01 h__12 h__23 h__34 h__45 h K := by kernel_rfl
theorem depotref23_right.go {h__01 : Int} {h__12 : Int} {h__23 : Int} {h__34 : Int} {h__45 : Int} {h : AH} {K : Int → AH → Prop} (hh : depotref23_rightw h__01 h__12 h__23 h__34 h__45 h K) : depotref23_right h__01 h__12 h__23 h__34 h__45 h K := step_call (depotref23_right.eq h__01 h__12 h__23 h__34 h__45 h K) hh

/-! depot/crc.Sum -/
noncomputable def c116 : Code := bodyOf PR.funcs[116]?
def crc_Sumw (b_1 : Option Sl) (h : AH) (K : Int → AH → Prop) : Prop :=
  crc_More 0 b_1 h fun r4 h3 =>
    K r4 h3
theorem crc_Sum.eq (b_1 : Option Sl) (h : AH) (K : Int → AH → Prop) : fstep PR (ACall PR M) (ALoop PR M) M 116 [.slice b_1] h (fun v1 h2 =>
  chkInt .i64 v1 fun n3 =>
  K n3 h2
  ) = crc_Sumw b_1 h K := by kernel_rfl
theorem crc_Sum.go {b_1 : Option Sl} {h : AH} {K : Int → AH → Prop} (hh : crc_Sumw b_1 h K) : crc_Sum b_1 h K := step_call (crc_Sum.eq b_1 h K) hh

end Go.Abs
