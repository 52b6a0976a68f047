/- Printed by gen2.py: what functions of the program come to. -/
import Derived.Test.YtdpecfeofcibhaaG0
import Derived.KernelRfl
set_option maxRecDepth 100000
namespace Go.Abs
open Go.Proofs

/-! depot/page.put -/
noncomputable def c128 : Code := bodyOf PR.funcs[128]?
def page_put_L0 (z3 : Option Sl) (z4 : Option Sl) (z5 : Int) (z6 : Int) (h13 : AH) (K0 : Option Sl → AH → Prop) : Prop := ALoop PR M (M 128) (sub [true, false, true, false, false] c128) [.slice z3, .bot, .bot, .bot, .bot, .bot, .bot, .slice z4, .int .i64 z5, .int .i64 z6, .bot, .bot, .bot, .bot, .bot, .bot, .bot, .bot, .bot, .bot, .bot, .bot, .bot, .bot] h13 fun e7 env8 h9 =>
  exCase e7 (
    False
  ) fun i10 =>
  bif i10 == 0 then (
    chkSl (env8.getD 0 .bot) fun u11 =>
    K0 u11 h9
  ) else (
    False
  )
def page_put_L0w (z3 : Option Sl) (z4 : Option Sl) (z5 : Int) (z6 : Int) (h13 : AH) (K0 : Option Sl → AH → Prop) : Prop :=
  br (decide (z6 < z5)) (
    ob z4 fun s14 =>
    need ((0 : Int) ≤ z6 ∧ z6 < ((s14.len : Nat) : Int)) <|
    ob (AH.cellsAt h13 s14.id (s14.off + Int.toNat z6 * 2) 2) fun cs15 =>
    ints2 .i64 cs15 fun n16 n17 =>
    new h13 (.cells [.int .i64 0, .int .i64 0] false) fun i19 h18 =>
    ob (AH.puts h18 i19 0 [.int .i64 n16, .int .i64 n17]) fun h20 =>
      ob (AH.cell h20 i19 0) fun v21 =>
      chkInt .i64 v21 fun n22 =>
      ob (AH.cell h20 i19 1) fun v23 =>
      chkInt .i64 v23 fun n24 =>
      wire_Put z3 n22 n24 h20 fun r_027 r_128 h26 =>
        page_put_L0 r_027 z4 z5 (IntKind.wrap .i64 (z6 + 1)) h26 K0
  ) (
    K0 z3 h13
  )
theorem page_put_L0.eq (z3 : Option Sl) (z4 : Option Sl) (z5 : Int) (z6 : Int) (h13 : AH) (K0 : Option Sl → AH → Prop) : lstep PR (ACall PR M) (ALoop PR M) (M 128) (sub [true, false, true, false, false] c128) [.slice z3, .bot, .bot, .bot, .bot, .bot, .bot, .slice z4, .int .i64 z5, .int .i64 z6, .bot, .bot, .bot, .bot, .bot, .bot, .bot, .bot, .bot, .bot, .bot, .bot, .bot, .bot] h13 (fun e7 env8 h9 =>
  exCase e7 (
    False
  ) fun i10 =>
  bif i10 == 0 then (
    chkSl (env8.getD 0 .bot) fun u11 =>
    K0 u11 h9
  ) else (
    False
  )
  ) = page_put_L0w z3 z4 z5 z6 h13 K0 := by kernel_rfl
theorem page_put_L0.go {z3 : Option Sl} {z4 : Option Sl} {z5 : Int} {z6 : Int} {h13 : AH} {K0 : Option Sl → AH → Prop} (hh : page_put_L0w z3 z4 z5 z6 h13 K0) : page_put_L0 z3 z4 z5 z6 h13 K0 := step_loop' (page_put_L0.eq z3 z4 z5 z6 h13 K0) hh
def page_putw (b_1 : Option Sl) (l_2 : Option Sl) (h : AH) (K : Option Sl → AH → Prop) : Prop :=
    page_put_L0 b_1 l_2 ((lenO l_2 : Nat) : Int) 0 h
      (fun u30 h29 =>
          K u30 h29
      )
theorem page_put.eq (b_1 : Option Sl) (l_2 : Option Sl) (h : AH) (K : Option Sl → AH → Prop) : fstep PR (ACall PR M) (ALoop PR M) M 128 [.slice b_1, .slice l_2] h (fun v1 h2 =>
  chkSl v1 fun x3 =>
  K x3 h2
  ) = page_putw b_1 l_2 h K := by kernel_rfl
theorem page_put.go {b_1 : Option Sl} {l_2 : Option Sl} {h : AH} {K : Option Sl → AH → Prop} (hh : page_putw b_1 l_2 h K) : page_put b_1 l_2 h K := step_call (page_put.eq b_1 l_2 h K) hh

/-! depot/depotref04.low -/
noncomputable def c129 : Code := bodyOf PR.funcs[129]?
def depotref04_loww (n_1 : Int) (h : AH) (K : Int → AH → Prop) : Prop :=
    K (IntKind.wrap .u32 (IntKind.wrap .u64 n_1)) h
theorem depotref04_low.eq (n_1 : Int) (h : AH) (K : Int → AH → Prop) : fstep PR (ACall PR M) (ALoop PR M) M 129 [.int .i64 n_1] h (fun v1 h2 =>
  chkInt .u32 v1 fun n3 =>
  K n3 h2
  ) = depotref04_loww n_1 h K := by kernel_rfl
theorem depotref04_low.go {n_1 : Int} {h : AH} {K : Int → AH → Prop} (hh : depotref04_loww n_1 h K) : depotref04_low n_1 h K := step_call (depotref04_low.eq n_1 h K) hh

/-! depot/depotref04.Step -/
noncomputable def c130 : Code := bodyOf PR.funcs[130]?
def depotref04_Step_L0 (z6 : Int) (z7 : Int) (h14 : AH) (K0 : Int → AH → Prop) : Prop := ALoop PR M (M 130) (sub [true, true, false, true, false, false] c130) [.bot, .bot, .bot, .bot, .bot, .int .u32 z6, .int .i64 z7, .bot, .bot, .bot, .bot, .bot, .bot, .bot, .bot, .bot, .bot, .bot, .bot, .bot, .bot, .bot, .bot, .bot, .bot, .bot, .bot] h14 fun e8 env9 h10 =>
  exCase e8 (
    False
  ) fun i11 =>
  bif i11 == 0 then (
    chkInt .u32 (env9.getD 5 .bot) fun u12 =>
    K0 u12 h10
  ) else (
    False
  )
def depotref04_Step_L0w (z6 : Int) (z7 : Int) (h14 : AH) (K0 : Int → AH → Prop) : Prop :=
  br (decide (z7 < 8)) (
        br ((Int.tmod z6 2) == 1) (
          depotref04_Step_L0 (IntKind.wrap .u32 (((BitVec.ofInt (IntKind.bits .u32) (IntKind.wrap .u32 (Int.tdiv z6 2)) ^^^ BitVec.ofInt (IntKind.bits .u32) 2197175160).toNat : Nat) : Int)) (IntKind.wrap .i64 (z7 + 1)) h14 K0
        ) (
          depotref04_Step_L0 (IntKind.wrap .u32 (Int.tdiv z6 2)) (IntKind.wrap .i64 (z7 + 1)) h14 K0
        )
  ) (
    K0 z6 h14
  )
theorem depotref04_Step_L0.eq (z6 : Int) (z7 : Int) (h14 : AH) (K0 : Int → AH → Prop) : lstep PR (ACall PR M) (ALoop PR M) (M 130) (sub [true, true, false, true, false, false] c130) [.bot, .bot, .bot, .bot, .bot, .int .u32 z6, .int .i64 z7, .bot, .bot, .bot, .bot, .bot, .bot, .bot, .bot, .bot, .bot, .bot, .bot, .bot, .bot, .bot, .bot, .bot, .bot, .bot, .bot] h14 (fun e8 env9 h10 =>
  exCase e8 (
    False
  ) fun i11 =>
  bif i11 == 0 then (
    chkInt .u32 (env9.getD 5 .bot) fun u12 =>
    K0 u12 h10
  ) else (
    False
  )
  ) = depotref04_Step_L0w z6 z7 h14 K0 := by kernel_rfl
theorem depotref04_Step_L0.go {z6 : Int} {z7 : Int} {h14 : AH} {K0 : Int → AH → Prop} (hh : depotref04_Step_L0w z6 z7 h14 K0) : depotref04_Step_L0 z6 z7 h14 K0 := step_loop' (depotref04_Step_L0.eq z6 z7 h14 K0) hh
def depotref04_Stepw (c_1 : Int) (x_2 : Int) (h : AH) (K : Int → AH → Prop) : Prop :=
  depotref04_low c_1 h fun r5 h4 =>
    depotref04_Step_L0 (IntKind.wrap .u32 (((BitVec.ofInt (IntKind.bits .u32) r5 ^^^ BitVec.ofInt (IntKind.bits .u32) (IntKind.wrap .u32 x_2)).toNat : Nat) : Int)) 0 h4
      (fun u16 h15 =>
          K (IntKind.wrap .i64 u16) h15
      )
theorem depotref04_Step.eq (c_1 : Int) (x_2 : Int) (h : AH) (K : Int → AH → Prop) : fstep PR (ACall PR M) (ALoop PR M) M 130 [.int .i64 c_1, .int .u8 x_2] h (fun v1 h2 =>
  chkInt .i64 v1 fun n3 =>
  K n3 h2
  ) = depotref04_Stepw c_1 x_2 h K := by kernel_rfl
theorem depotref04_Step.go {c_1 : Int} {x_2 : Int} {h : AH} {K : Int → AH → Prop} (hh : depotref04_Stepw c_1 x_2 h K) : depotref04_Step c_1 x_2 h K := step_call (depotref04_Step.eq c_1 x_2 h K) hh

/-! depot/crc.More -/
noncomputable def c131 : Code := bodyOf PR.funcs[131]?
def crc_Morew (sum_1 : Int) (b_2 : Option Sl) (h : AH) (K : Int → AH → Prop) : Prop :=
  crc_steps (IntKind.wrap .u32 (BitVec.ofInt (IntKind.bits .u32) (if IntKind.signed .u32 then -1 else IntKind.max .u32) ^^^ BitVec.ofInt (IntKind.bits .u32) (IntKind.wrap .u32 sum_1)).toNat) b_2 h fun r5 h4 =>
    K (IntKind.wrap .i64 (IntKind.wrap .u32 (BitVec.ofInt (IntKind.bits .u32) (if IntKind.signed .u32 then -1 else IntKind.max .u32) ^^^ BitVec.ofInt (IntKind.bits .u32) r5).toNat)) h4
theorem crc_More.eq (sum_1 : Int) (b_2 : Option Sl) (h : AH) (K : Int → AH → Prop) : fstep PR (ACall PR M) (ALoop PR M) M 131 [.int .i64 sum_1, .slice b_2] h (fun v1 h2 =>
  chkInt .i64 v1 fun n3 =>
  K n3 h2
  ) = crc_Morew sum_1 b_2 h K := by kernel_rfl
theorem crc_More.go {sum_1 : Int} {b_2 : Option Sl} {h : AH} {K : Int → AH → Prop} (hh : crc_Morew sum_1 b_2 h K) : crc_More sum_1 b_2 h K := step_call (crc_More.eq sum_1 b_2 h K) hh

/-! depot/crc.steps -/
noncomputable def c138 : Code := bodyOf PR.funcs[138]?
def crc_steps_L1 (z17 : Int) (z18 : Option Sl) (z19 : Int) (z20 : Int) (z21 : Int) (h28 : AH) (K2 : Int → AH → Prop) : Prop := ALoop PR M (M 138) (sub [true, false, true, false, false, true, true, false, false, true, true, true, false, false] c138) [.int .u32 z17, .bot, .bot, .bot, .bot, .bot, .bot, .bot, .slice z18, .int .i64 z19, .int .i64 z20, .bot, .bot, .bot, .bot, .bot, .bot, .bot, .int .i64 z21, .bot, .bot, .bot, .bot, .bot, .bot, .bot, .bot, .bot, .bot, .bot, .bot, .bot] h28 fun e22 env23 h24 =>
  exCase e22 (
    False
  ) fun i25 =>
  bif i25 == 2 then (
    chkInt .u32 (env23.getD 0 .bot) fun u26 =>
    guardR (AV.beq (.slice z18) (env23.getD 8 .bot)) <|
    guardR (AV.beq (.int .i64 z19) (env23.getD 9 .bot)) <|
    guardR (AV.beq (.int .i64 z20) (env23.getD 10 .bot)) <|
    K2 u26 h24
  ) else (
    False
  )
def crc_steps_L0 (z3 : Int) (z4 : Option Sl) (z5 : Int) (z6 : Int) (h13 : AH) (K0 : Int → AH → Prop) : Prop := ALoop PR M (M 138) (sub [true, false, true, false, false] c138) [.int .u32 z3, .bot, .bot, .bot, .bot, .bot, .bot, .bot, .slice z4, .int .i64 z5, .int .i64 z6, .bot, .bot, .bot, .bot, .bot, .bot, .bot, .bot, .bot, .bot, .bot, .bot, .bot, .bot, .bot, .bot, .bot, .bot, .bot, .bot, .bot] h13 fun e7 env8 h9 =>
  exCase e7 (
    False
  ) fun i10 =>
  bif i10 == 0 then (
    chkInt .u32 (env8.getD 0 .bot) fun u11 =>
    K0 u11 h9
  ) else (
    False
  )
def crc_steps_L1w (z17 : Int) (z18 : Option Sl) (z19 : Int) (z20 : Int) (z21 : Int) (h28 : AH) (K2 : Int → AH → Prop) : Prop :=
  br (decide (z21 < 8)) (
        crc_steps_L1 (IntKind.wrap .u32 (((BitVec.ofInt (IntKind.bits .u32) (Int.fdiv z17 (2 ^ (min (Int.toNat 1) (IntKind.bits .u32)))) ^^^ BitVec.ofInt (IntKind.bits .u32) (IntKind.wrap .u32 (((BitVec.ofInt (IntKind.bits .u32) 2197175160 &&& BitVec.ofInt (IntKind.bits .u32) (IntKind.wrap .u32 (0 - IntKind.wrap .u32 (((BitVec.ofInt (IntKind.bits .u32) z17 &&& BitVec.ofInt (IntKind.bits .u32) 1).toNat : Nat) : Int)))).toNat : Nat) : Int))).toNat : Nat) : Int)) z18 z19 z20 (IntKind.wrap .i64 (z21 + 1)) h28 K2
  ) (
    guardR (AV.beq (.slice z18) (.slice z18)) <|
    guardR (AV.beq (.int .i64 z19) (.int .i64 z19)) <|
    guardR (AV.beq (.int .i64 z20) (.int .i64 z20)) <|
    K2 z17 h28
  )
theorem crc_steps_L1.eq (z17 : Int) (z18 : Option Sl) (z19 : Int) (z20 : Int) (z21 : Int) (h28 : AH) (K2 : Int → AH → Prop) : lstep PR (ACall PR M) (ALoop PR M) (M 138) (sub [true, false, true, false, false, true, true, false, false, true, true, true, false, false] c138) [.int .u32 z17, .bot, .bot, .bot, .bot, .bot, .bot, .bot, .slice z18, .int .i64 z19, .int .i64 z20, .bot, .bot, .bot, .bot, .bot, .bot, .bot, .int .i64 z21, .bot, .bot, .bot, .bot, .bot, .bot, .bot, .bot, .bot, .bot, .bot, .bot, .bot] h28 (fun e22 env23 h24 =>
  exCase e22 (
    False
  ) fun i25 =>
  bif i25 == 2 then (
    chkInt .u32 (env23.getD 0 .bot) fun u26 =>
    guardR (AV.beq (.slice z18) (env23.getD 8 .bot)) <|
    guardR (AV.beq (.int .i64 z19) (env23.getD 9 .bot)) <|
    guardR (AV.beq (.int .i64 z20) (env23.getD 10 .bot)) <|
    K2 u26 h24
  ) else (
    False
  )
  ) = crc_steps_L1w z17 z18 z19 z20 z21 h28 K2 := by kernel_rfl
theorem crc_steps_L1.go {z17 : Int} {z18 : Option Sl} {z19 : Int} {z20 : Int} {z21 : Int} {h28 : AH} {K2 : Int → AH → Prop} (hh : crc_steps_L1w z17 z18 z19 z20 z21 h28 K2) : crc_steps_L1 z17 z18 z19 z20 z21 h28 K2 := step_loop' (crc_steps_L1.eq z17 z18 z19 z20 z21 h28 K2) hh
def crc_steps_L0w (z3 : Int) (z4 : Option Sl) (z5 : Int) (z6 : Int) (h13 : AH) (K0 : Int → AH → Prop) : Prop :=
  br (decide (z6 < z5)) (
    ob z4 fun s14 =>
    need ((0 : Int) ≤ z6 ∧ z6 < ((s14.len : Nat) : Int)) <|
    ob (AH.cell h13 s14.id (s14.off + Int.toNat z6 * 1)) fun v15 =>
    chkInt .u8 v15 fun n16 =>
        crc_steps_L1 (IntKind.wrap .u32 (((BitVec.ofInt (IntKind.bits .u32) z3 ^^^ BitVec.ofInt (IntKind.bits .u32) (IntKind.wrap .u32 n16)).toNat : Nat) : Int)) z4 z5 z6 0 h13
          (fun u30 h29 =>
            crc_steps_L0 u30 z4 z5 (IntKind.wrap .i64 (z6 + 1)) h29 K0
          )
  ) (
    K0 z3 h13
  )
theorem crc_steps_L0.eq (z3 : Int) (z4 : Option Sl) (z5 : Int) (z6 : Int) (h13 : AH) (K0 : Int → AH → Prop) : lstep PR (ACall PR M) (ALoop PR M) (M 138) (sub [true, false, true, false, false] c138) [.int .u32 z3, .bot, .bot, .bot, .bot, .bot, .bot, .bot, .slice z4, .int .i64 z5, .int .i64 z6, .bot, .bot, .bot, .bot, .bot, .bot, .bot, .bot, .bot, .bot, .bot, .bot, .bot, .bot, .bot, .bot, .bot, .bot, .bot, .bot, .bot] h13 (fun e7 env8 h9 =>
  exCase e7 (
    False
  ) fun i10 =>
  bif i10 == 0 then (
    chkInt .u32 (env8.getD 0 .bot) fun u11 =>
    K0 u11 h9
  ) else (
    False
  )
  ) = crc_steps_L0w z3 z4 z5 z6 h13 K0 := by kernel_rfl
theorem crc_steps_L0.go {z3 : Int} {z4 : Option Sl} {z5 : Int} {z6 : Int} {h13 : AH} {K0 : Int → AH → Prop} (hh : crc_steps_L0w z3 z4 z5 z6 h13 K0) : crc_steps_L0 z3 z4 z5 z6 h13 K0 := step_loop' (crc_steps_L0.eq z3 z4 z5 z6 h13 K0) hh
def crc_stepsw (s_1 : Int) (l_2 : Option Sl) (h : AH) (K : Int → AH → Prop) : Prop :=
    crc_steps_L0 s_1 l_2 ((lenO l_2 : Nat) : Int) 0 h
      (fun u32 h31 =>
          K u32 h31
      )
theorem crc_steps.eq (s_1 : Int) (l_2 : Option Sl) (h : AH) (K : Int → AH → Prop) : fstep PR (ACall PR M) (ALoop PR M) M 138 [.int .u32 s_1, .slice l_2] h (fun v1 h2 =>
  chkInt .u32 v1 fun n3 =>
  K n3 h2
  ) = crc_stepsw s_1 l_2 h K := by kernel_rfl
theorem crc_steps.go {s_1 : Int} {l_2 : Option Sl} {h : AH} {K : Int → AH → Prop} (hh : crc_stepsw s_1 l_2 h K) : crc_steps s_1 l_2 h K := step_call (crc_steps.eq s_1 l_2 h K) hh

end Go.Abs
