/- The check sum: both texts come to one function of the bytes. -/
import Derived.Test.YtdpecfeofcibhaaB2
import Derived.Test.YtdpecfeofcibhaaGS2
import Derived.Test.YtdpecfeofcibhaaGS3
import Derived.Test.YtdpecfeofcibhaaGS4
namespace Go.Abs

def crcStep (s : Nat) : Nat := if s % 2 = 1 then (s / 2) ^^^ 2197175160 else s / 2
def crcRep : Nat → Nat → Nat
  | 0, s => s
  | n + 1, s => crcRep n (crcStep s)
def crcByte (s x : Nat) : Nat := crcRep 8 (s ^^^ x)
def crcFold (s : Nat) (l : List UInt8) : Nat := l.foldl (fun s b => crcByte s b.toNat) s
def crcMore (sum : Nat) (l : List UInt8) : Nat := 4294967295 ^^^ crcFold (4294967295 ^^^ sum) l
def crcSum (l : List UInt8) : Nat := crcMore 0 l

theorem xor_lt32 {a b : Nat} (ha : a < 4294967296) (hb : b < 4294967296) : a ^^^ b < 4294967296 := Nat.xor_lt_two_pow (n := 32) ha hb
theorem crcStep_lt {s : Nat} (h : s < 4294967296) : crcStep s < 4294967296 := by
  unfold crcStep
  split
  · exact xor_lt32 (by omega) (by decide)
  · omega
theorem crcRep_lt : ∀ (n : Nat) {s : Nat}, s < 4294967296 → crcRep n s < 4294967296
  | 0, _, h => h
  | n + 1, _, h => crcRep_lt n (crcStep_lt h)
theorem crcByte_lt {s : Nat} (h : s < 4294967296) (b : UInt8) : crcByte s b.toNat < 4294967296 :=
  crcRep_lt 8 (xor_lt32 h (by have := b.toNat_lt; omega))
theorem crcFold_lt : ∀ (l : List UInt8) {s : Nat}, s < 4294967296 → crcFold s l < 4294967296
  | [], _, h => h
  | b :: l, _, h => crcFold_lt l (crcByte_lt h b)
theorem crcSum_lt (l : List UInt8) : crcSum l < 4294967296 := xor_lt32 (by decide) (crcFold_lt l (by decide))

theorem ofInt32 {a : Nat} (ha : a < 4294967296) : (BitVec.ofInt 32 (a : Int)).toNat = a := by
  rw [BitVec.toNat_ofInt]
  have : ((a : Int) % ((2 ^ 32 : Nat) : Int)) = a := by omega
  rw [this]; simp
theorem xor_u32 {a b : Nat} (ha : a < 4294967296) (hb : b < 4294967296) : IntKind.wrap .u32 (((BitVec.ofInt (IntKind.bits .u32) (a : Int) ^^^ BitVec.ofInt (IntKind.bits .u32) (b : Int)).toNat : Nat) : Int) = ((a ^^^ b : Nat) : Int) := by
  show IntKind.wrap .u32 (((BitVec.ofInt 32 (a : Int) ^^^ BitVec.ofInt 32 (b : Int)).toNat : Nat) : Int) = _
  rw [BitVec.toNat_xor, ofInt32 ha, ofInt32 hb, wrap_u32]
  have := xor_lt32 ha hb
  omega
theorem and_u32 {a b : Nat} (ha : a < 4294967296) (hb : b < 4294967296) : IntKind.wrap .u32 (((BitVec.ofInt (IntKind.bits .u32) (a : Int) &&& BitVec.ofInt (IntKind.bits .u32) (b : Int)).toNat : Nat) : Int) = ((a &&& b : Nat) : Int) := by
  show IntKind.wrap .u32 (((BitVec.ofInt 32 (a : Int) &&& BitVec.ofInt 32 (b : Int)).toNat : Nat) : Int) = _
  rw [BitVec.toNat_and, ofInt32 ha, ofInt32 hb, wrap_u32]
  have : a &&& b ≤ a := Nat.and_le_left
  omega
theorem not_u32 {a : Nat} (ha : a < 4294967296) : IntKind.wrap .u32 ((BitVec.ofInt (IntKind.bits .u32) (if IntKind.signed .u32 then -1 else IntKind.max .u32) ^^^ BitVec.ofInt (IntKind.bits .u32) (a : Int)).toNat : Int) = ((4294967295 ^^^ a : Nat) : Int) :=
  xor_u32 (by decide) ha
theorem wrap_u32_lt {a : Nat} (ha : a < 4294967296) : IntKind.wrap .u32 (a : Int) = a := by rw [wrap_u32]; omega
theorem wrap_u64_lt {a : Nat} (ha : a < 4294967296) : IntKind.wrap .u64 (a : Int) = a := by rw [wrap_u64]; omega
theorem wrap_i64_lt {a : Nat} (ha : a < 9223372036854775808) : IntKind.wrap .i64 (a : Int) = a := wrap_i64 (by omega) (by omega)

theorem crc_round {s : Nat} (h : s < 4294967296) : (IntKind.wrap .u32 (((BitVec.ofInt (IntKind.bits .u32) (Int.fdiv (s : Int) (2 ^ (min (Int.toNat 1) (IntKind.bits .u32)))) ^^^ BitVec.ofInt (IntKind.bits .u32) (IntKind.wrap .u32 (((BitVec.ofInt (IntKind.bits .u32) 2197175160 &&& BitVec.ofInt (IntKind.bits .u32) (IntKind.wrap .u32 (0 - IntKind.wrap .u32 (((BitVec.ofInt (IntKind.bits .u32) (s : Int) &&& BitVec.ofInt (IntKind.bits .u32) 1).toNat : Nat) : Int)))).toNat : Nat) : Int))).toNat : Nat) : Int)) = (crcStep s : Int) := by
  have e1 : Int.fdiv (s : Int) (2 ^ (min (Int.toNat 1) (IntKind.bits .u32))) = ((s / 2 : Nat) : Int) := by
    show Int.fdiv (s : Int) 2 = _
    rw [Int.fdiv_eq_ediv_of_nonneg _ (by omega)]
    omega
  have e2 : IntKind.wrap .u32 (((BitVec.ofInt (IntKind.bits .u32) (s : Int) &&& BitVec.ofInt (IntKind.bits .u32) 1).toNat : Nat) : Int) = ((s % 2 : Nat) : Int) := by
    rw [show (1 : Int) = ((1 : Nat) : Int) from rfl, and_u32 h (by decide), Nat.and_one_is_mod]
  rw [e1, e2]
  unfold crcStep
  rcases Nat.mod_two_eq_zero_or_one s with h0 | h0
  · rw [h0]
    have e3 : IntKind.wrap .u32 (0 - ((0 : Nat) : Int)) = ((0 : Nat) : Int) := by rw [wrap_u32]; rfl
    rw [e3, show (2197175160 : Int) = ((2197175160 : Nat) : Int) from rfl, and_u32 (by decide) (by decide), show (2197175160 &&& 0 : Nat) = 0 from rfl, xor_u32 (by omega) (by decide)]
    simp
  · rw [h0]
    have e3 : IntKind.wrap .u32 (0 - ((1 : Nat) : Int)) = ((4294967295 : Nat) : Int) := by rw [wrap_u32]; rfl
    rw [e3, show (2197175160 : Int) = ((2197175160 : Nat) : Int) from rfl, and_u32 (by decide) (by decide), show (2197175160 &&& 4294967295 : Nat) = 2197175160 from rfl, xor_u32 (by omega) (by decide)]
    simp

theorem crc_steps_L1_ok (z4 : Option Sl) (z5 z6 : Int) {h : AH} {K : Int → AH → Prop} : ∀ (n k s : Nat), k + n = 8 → s < 4294967296 → K (crcRep n s : Nat) h → crc_steps_L1 (s : Int) z4 z5 z6 (k : Int) h K
  | 0, k, s, hn, _, hk => by
    refine crc_steps_L1.go ?_
    unfold crc_steps_L1w
    rw [br_neg (by omega)]
    simp only [AV.beq_self, guardR_true]
    exact hk
  | n + 1, k, s, hn, hs, hk => by
    refine crc_steps_L1.go ?_
    unfold crc_steps_L1w
    rw [br_pos (by omega), crc_round hs, wrap_i64 (by omega) (by omega)]
    exact crc_steps_L1_ok z4 z5 z6 n (k + 1) _ (by omega) (crcStep_lt hs) hk

theorem crc_steps_L0_ok {x : Option Sl} {l : List UInt8} {h : AH} (hb : By h x l) {K : Int → AH → Prop} (hz : l.length < 1000000) : ∀ (n k s : Nat), k + n = l.length → s < 4294967296 → K (crcFold s (l.drop k) : Nat) h → crc_steps_L0 (s : Int) x (l.length : Int) (k : Int) h K
  | 0, k, s, hn, _, hk => by
    refine crc_steps_L0.go ?_
    unfold crc_steps_L0w
    rw [br_neg (by omega)]
    rw [List.drop_of_length_le (by omega)] at hk
    exact hk
  | n + 1, k, s, hn, hs, hk => by
    have hlt : k < l.length := by omega
    have hl := By.len hb
    obtain ⟨sl, rfl⟩ : ∃ sl, x = some sl := by
      cases x with
      | none => simp [lenO] at hl; omega
      | some sl => exact ⟨sl, rfl⟩
    simp only [lenO] at hl
    refine crc_steps_L0.go ?_
    unfold crc_steps_L0w
    rw [br_pos (by omega)]
    have hc := By.at_ hb hlt
    simp only [ob_some, Int.toNat_natCast, Nat.mul_one, hc]
    rw [need_true (by omega)]
    simp only [chkInt_u8]
    rw [wrap_u32_lt (a := l[k].toNat) (by have := l[k].toNat_lt; omega), xor_u32 hs (by have := l[k].toNat_lt; omega), wrap_i64 (by omega) (by omega)]
    refine crc_steps_L1_ok _ _ _ 8 0 _ rfl (xor_lt32 hs (by have := l[k].toNat_lt; omega)) ?_
    refine crc_steps_L0_ok hb hz n (k + 1) _ (by omega) (crcByte_lt hs l[k]) ?_
    rw [List.drop_eq_getElem_cons hlt] at hk
    exact hk

theorem crc_steps_ok {x : Option Sl} {l : List UInt8} {h : AH} (hb : By h x l) (hz : l.length < 1000000) {s : Nat} (hs : s < 4294967296) {K : Int → AH → Prop} (hk : K (crcFold s l : Nat) h) : crc_steps (s : Int) x h K := by
  refine crc_steps.go ?_
  unfold crc_stepsw
  rw [By.len hb]
  exact crc_steps_L0_ok hb hz l.length 0 s (by omega) hs (by simpa using hk)

theorem crc_Sum_ok {x : Option Sl} {l : List UInt8} {h : AH} (hb : By h x l) (hz : l.length < 1000000) {K : Int → AH → Prop} (hk : K (crcSum l : Nat) h) : crc_Sum x h K := by
  refine crc_Sum.go (crc_More.go ?_)
  unfold crc_Morew
  rw [show IntKind.wrap .u32 0 = ((0 : Nat) : Int) from rfl, not_u32 (by decide)]
  refine crc_steps_ok hb hz (by decide) ?_
  have h1 := crcFold_lt l (s := 4294967295 ^^^ 0) (by decide)
  rw [not_u32 h1, wrap_i64_lt (by have := xor_lt32 (a := 4294967295) (by decide) h1; omega)]
  exact hk

theorem crc_Check_ok {x : Option Sl} {l : List UInt8} {h : AH} (hb : By h x l) (hz : l.length < 1000000) {sum : Int} {K : Bool → AH → Prop} (hk : K (((crcSum l : Nat) : Int) == sum) h) : crc_Check x sum h K := by
  refine crc_Check.go ?_
  unfold crc_Checkw
  exact crc_Sum_ok hb hz hk

/-! The reference's. -/

theorem depotref04_low_ok {a : Nat} (ha : a < 4294967296) {h : AH} {K : Int → AH → Prop} (hk : K (a : Int) h) : depotref04_low (a : Int) h K := by
  refine depotref04_low.go ?_
  unfold depotref04_loww
  rw [wrap_u64_lt ha, wrap_u32_lt ha]
  exact hk

theorem depotref04_Step_L0_ok {h : AH} {K : Int → AH → Prop} : ∀ (n k s : Nat), k + n = 8 → s < 4294967296 → K (crcRep n s : Nat) h → depotref04_Step_L0 (s : Int) (k : Int) h K
  | 0, k, s, hn, _, hk => by
    refine depotref04_Step_L0.go ?_
    unfold depotref04_Step_L0w
    rw [br_neg (by omega)]
    exact hk
  | n + 1, k, s, hn, hs, hk => by
    refine depotref04_Step_L0.go ?_
    unfold depotref04_Step_L0w
    have e1 : Int.tdiv (s : Int) 2 = ((s / 2 : Nat) : Int) := by rw [Int.tdiv_eq_ediv_of_nonneg (by omega)]; omega
    have e2 : Int.tmod (s : Int) 2 = ((s % 2 : Nat) : Int) := by rw [Int.tmod_eq_emod_of_nonneg (by omega)]; omega
    rw [br_pos (by omega), e1, e2, wrap_u32_lt (a := s / 2) (by omega), wrap_i64 (by omega) (by omega)]
    have hr := depotref04_Step_L0_ok n (k + 1) (crcStep s) (by omega) (crcStep_lt hs) hk
    rcases Nat.mod_two_eq_zero_or_one s with h0 | h0
    · rw [br_neq (by omega)]
      unfold crcStep at hr
      rw [if_neg (by omega)] at hr
      exact hr
    · rw [br_eq (by omega), show (2197175160 : Int) = ((2197175160 : Nat) : Int) from rfl, xor_u32 (by omega) (by decide)]
      unfold crcStep at hr
      rw [if_pos h0] at hr
      exact hr

theorem depotref04_Step_ok {s : Nat} (hs : s < 4294967296) (b : UInt8) {h : AH} {K : Int → AH → Prop} (hk : K (crcByte s b.toNat : Nat) h) : depotref04_Step (s : Int) (b.toNat : Int) h K := by
  refine depotref04_Step.go ?_
  unfold depotref04_Stepw
  have hb := b.toNat_lt
  refine depotref04_low_ok hs ?_
  rw [wrap_u32_lt (a := b.toNat) (by omega), xor_u32 hs (by omega)]
  refine depotref04_Step_L0_ok 8 0 _ rfl (xor_lt32 hs (by omega)) ?_
  rw [wrap_i64_lt (by have := crcByte_lt hs b; unfold crcByte at this; omega)]
  exact hk

theorem depotref04_More_L0_ok {x : Option Sl} {l : List UInt8} {h : AH} (hb : By h x l) {K : Int → AH → Prop} (hz : l.length < 1000000) : ∀ (n k s : Nat), k + n = l.length → s < 4294967296 → K (crcFold s (l.drop k) : Nat) h → depotref04_More_L0 x (s : Int) (k : Int) h K
  | 0, k, s, hn, _, hk => by
    refine depotref04_More_L0.go ?_
    unfold depotref04_More_L0w
    rw [By.len hb, br_neg (by omega)]
    rw [List.drop_of_length_le (by omega)] at hk
    exact hk
  | n + 1, k, s, hn, hs, hk => by
    have hlt : k < l.length := by omega
    have hl := By.len hb
    obtain ⟨sl, rfl⟩ : ∃ sl, x = some sl := by
      cases x with
      | none => simp [lenO] at hl; omega
      | some sl => exact ⟨sl, rfl⟩
    refine depotref04_More_L0.go ?_
    unfold depotref04_More_L0w
    rw [hl, br_pos (by omega)]
    simp only [lenO] at hl
    have hc := By.at_ hb hlt
    simp only [ob_some, Int.toNat_natCast, Nat.mul_one, hc]
    rw [need_true (by omega)]
    simp only [chkInt_u8]
    refine depotref04_Step_ok hs _ ?_
    rw [wrap_i64 (by omega) (by omega)]
    refine depotref04_More_L0_ok hb hz n (k + 1) _ (by omega) (crcByte_lt hs l[k]) ?_
    rw [List.drop_eq_getElem_cons hlt] at hk
    exact hk

theorem depotref04_Sum_ok {x : Option Sl} {l : List UInt8} {h : AH} (hb : By h x l) (hz : l.length < 1000000) {K : Int → AH → Prop} (hk : K (crcSum l : Nat) h) : depotref04_Sum x h K := by
  refine depotref04_Sum.go (depotref04_More.go ?_)
  unfold depotref04_Morew
  refine depotref04_low_ok (a := 0) (by decide) ?_
  rw [show (0 : Int) = ((0 : Nat) : Int) from rfl, not_u32 (by decide), wrap_i64_lt (by decide)]
  refine depotref04_More_L0_ok hb hz l.length 0 _ (by omega) (by decide) ?_
  have h1 := crcFold_lt l (s := 4294967295 ^^^ 0) (by decide)
  simp only [List.drop_zero]
  refine depotref04_low_ok h1 ?_
  rw [not_u32 h1, wrap_i64_lt (by have := xor_lt32 (a := 4294967295) (by decide) h1; omega)]
  exact hk

end Go.Abs
