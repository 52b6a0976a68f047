/- A page's image: what both texts come to; heads, sizes, blank pages. -/
import Derived.Test.YtdpecfeofcibhaaB4
namespace Go.Abs

/-- What is wrong with a head. -/
def headE (k p q e g : Int) : Int :=
  if k < 1 ∨ 4 < k then 16 else if q < 1 ∨ 16 < q ∨ p < 0 ∨ q ≤ p ∨ e < 1 ∨ 1073741824 < e ∨ g < 0 ∨ 15 < g then 3 else 0

def sizedB (n : Int) : Bool := decide (64 ≤ n) && decide (n ≤ 512)

theorem headE_16 {k p q e g : Int} (h : k < 1 ∨ 4 < k) : headE k p q e g = 16 := if_pos h
theorem headE_3 {k p q e g : Int} (h1 : ¬(k < 1 ∨ 4 < k)) (h : q < 1 ∨ 16 < q ∨ p < 0 ∨ q ≤ p ∨ e < 1 ∨ 1073741824 < e ∨ g < 0 ∨ 15 < g) : headE k p q e g = 3 := by
  unfold headE; rw [if_neg h1, if_pos h]
theorem headE_0 {k p q e g : Int} (h1 : ¬(k < 1 ∨ 4 < k)) (h : ¬(q < 1 ∨ 16 < q ∨ p < 0 ∨ q ≤ p ∨ e < 1 ∨ 1073741824 < e ∨ g < 0 ∨ 15 < g)) : headE k p q e g = 0 := by
  unfold headE; rw [if_neg h1, if_neg h]

theorem page_check_ok {k p q e g : Int} {h : AH} {K : Int → AH → Prop} (hk : ∀ h', Fr [] h h' → K (headE k p q e g) h') : page_check k p q e g h K := by
  refine page_check.go ?_
  unfold page_checkw
  refine new_i fun i7 h6 e6 f6 _ => ?_
  have hk := hk h6 f6
  simp only [cell_of e6, List.getElem?_cons_zero, List.getElem?_cons_succ, ob_some, chkInt_int]
  refine br_dec (fun h1 => ?_) fun h1 => br_dec (fun h2 => ?_) fun h2 => br_dec (fun h3 => ?_) fun h3 => br_dec (fun h4 => ?_) fun h4 => br_dec (fun h5 => ?_) fun h5 => br_dec (fun h6 => ?_) fun h6 => br_dec (fun h7 => ?_) fun h7 => br_dec (fun h8 => ?_) fun h8 => br_dec (fun h9 => ?_) fun h9 => br_dec (fun h10 => ?_) fun h10 => ?_
  all_goals first
    | (rw [headE_16 (by omega)] at hk; exact hk)
    | (rw [headE_3 (by omega) (by omega)] at hk; exact hk)
    | (rw [headE_0 (by omega) (by omega)] at hk; exact hk)

theorem depotref23_right_ok {k p q e g : Int} {h : AH} {K : Int → AH → Prop} (hk : ∀ h', Fr [] h h' → K (headE k p q e g) h') : depotref23_right k p q e g h K := by
  refine depotref23_right.go ?_
  unfold depotref23_rightw
  refine new_i fun i7 h6 e6 f6 _ => ?_
  have hk := hk h6 f6
  simp only [cell_of e6, List.getElem?_cons_zero, List.getElem?_cons_succ, ob_some, chkInt_int]
  refine br_dec (fun h1 => ?_) fun h1 => br_dec (fun h2 => ?_) fun h2 => br_dec (fun h3 => ?_) fun h3 => br_dec (fun h4 => ?_) fun h4 => br_dec (fun h5 => ?_) fun h5 => br_dec (fun h6 => ?_) fun h6 => br_dec (fun h7 => ?_) fun h7 => br_dec (fun h8 => ?_) fun h8 => br_dec (fun h9 => ?_) fun h9 => br_dec (fun h10 => ?_) fun h10 => ?_
  all_goals first
    | (rw [headE_16 (by omega)] at hk; exact hk)
    | (rw [headE_3 (by omega) (by omega)] at hk; exact hk)
    | (rw [headE_0 (by omega) (by omega)] at hk; exact hk)

theorem page_sized_ok {n : Int} {h : AH} {K : Bool → AH → Prop} (hk : K (sizedB n) h) : page_sized n h K := by
  refine page_sized.go ?_
  unfold page_sizedw
  unfold sizedB at hk
  refine br_dec (fun h1 => ?_) fun h1 => ?_
  · rwa [decide_eq_true (show 64 ≤ n from h1), Bool.true_and] at hk
  · rwa [decide_eq_false (show ¬(64 ≤ n) from h1), Bool.false_and] at hk

theorem depotref23_sized_ok {n : Int} {h : AH} {K : Bool → AH → Prop} (hk : K (sizedB n) h) : depotref23_sized n h K := by
  refine depotref23_sized.go ?_
  unfold depotref23_sizedw
  unfold sizedB at hk
  refine br_dec (fun h1 => ?_) fun h1 => ?_
  · rwa [decide_eq_true (show 64 ≤ n from h1), Bool.true_and] at hk
  · rwa [decide_eq_false (show ¬(64 ≤ n) from h1), Bool.false_and] at hk

theorem sizedB_iff {n : Int} : sizedB n = true ↔ 64 ≤ n ∧ n ≤ 512 := by simp [sizedB]

theorem page_Room_ok {n : Int} {h : AH} {K : Int → AH → Prop} (hs : sizedB n = true) (hk : K (n - 16) h) : page_Room n h K := by
  refine page_Room.go ?_
  unfold page_Roomw
  refine page_sized_ok ?_
  have := sizedB_iff.1 hs
  rw [hs]
  show K (IntKind.wrap .i64 (n - 16)) h
  rw [wrap_i64 (by omega) (by omega)]
  exact hk

def blankB (l : List UInt8) : Bool := l.all (· == 255)

theorem blankB_drop {l : List UInt8} {k : Nat} (hk : k < l.length) : blankB (l.drop k) = (l[k] == 255 && blankB (l.drop (k + 1))) := by
  rw [List.drop_eq_getElem_cons hk]; rfl

theorem u8_ne_255 {b : UInt8} : (b == 255) = !((b.toNat : Int) != 255) := by
  by_cases h : b = 255
  · subst h; rfl
  · have : ¬(b.toNat : Int) = 255 := fun e => h (UInt8.toNat_inj.1 (by show b.toNat = 255; omega))
    have e1 : (b == 255) = false := beq_eq_false_iff_ne.2 h
    have e2 : ((b.toNat : Int) != 255) = true := bne_iff_ne.2 this
    rw [e1, e2]; rfl

theorem page_Blank_L0_ok {x : Option Sl} {l : List UInt8} {h : AH} (hb : By h x l) (hz : l.length < 1000000) {Kr K0 : AV → AH → Prop} (h1 : blankB l = false → Kr (.bool false) h) (h2 : blankB l = true → K0 .bot h) :
    ∀ (n k : Nat), k + n = l.length → blankB l = blankB (l.drop k) → page_Blank_L0 x (l.length : Int) (k : Int) h Kr K0
  | 0, k, hn, he => by
    refine page_Blank_L0.go ?_
    unfold page_Blank_L0w
    rw [br_neg (by omega)]
    rw [List.drop_of_length_le (by omega)] at he
    exact h2 he
  | n + 1, k, hn, he => by
    have hlt : k < l.length := by omega
    have hl := By.len hb
    obtain ⟨sl, rfl⟩ : ∃ sl, x = some sl := by
      cases x with
      | none => simp [lenO] at hl; omega
      | some sl => exact ⟨sl, rfl⟩
    have hl : sl.len = l.length := hl
    refine page_Blank_L0.go ?_
    unfold page_Blank_L0w
    rw [br_pos (by omega)]
    simp only [ob_some, Int.toNat_natCast, Nat.mul_one, By.at_ hb hlt]
    rw [need_true (by omega)]
    simp only [chkInt_u8]
    rw [blankB_drop hlt, u8_ne_255] at he
    rw [wrap_i64 (by omega) (by omega)]
    refine br_intro (fun hb => ?_) fun hb => ?_
    · rw [hb] at he
      exact h1 (by simpa using he)
    · rw [hb] at he
      exact page_Blank_L0_ok ‹_› hz h1 h2 n (k + 1) (by omega) (by simpa using he)

theorem page_Blank_ok {x : Option Sl} {l : List UInt8} {h : AH} (hb : By h x l) (hz : l.length < 1000000) {K : Bool → AH → Prop} (hk : K (blankB l) h) : page_Blank x h K := by
  refine page_Blank.go ?_
  unfold page_Blankw
  rw [By.len hb]
  refine page_Blank_L0_ok hb hz (fun e => ?_) (fun e => ?_) l.length 0 (by omega) (by simp)
  · rw [e] at hk; simpa using hk
  · rw [e] at hk; exact hk

theorem depotref23_Blank_L0_ok {x : Option Sl} {l : List UInt8} {h : AH} (hb : By h x l) (hz : l.length < 1000000) {Kr K0 : AV → AH → Prop} (h1 : blankB l = false → Kr (.bool false) h) (h2 : blankB l = true → K0 .bot h) :
    ∀ (n k : Nat), k + n = l.length → blankB l = blankB (l.drop k) → depotref23_Blank_L0 x (k : Int) h Kr K0
  | 0, k, hn, he => by
    refine depotref23_Blank_L0.go ?_
    unfold depotref23_Blank_L0w
    rw [By.len hb, br_neg (by omega)]
    rw [List.drop_of_length_le (by omega)] at he
    exact h2 he
  | n + 1, k, hn, he => by
    have hlt : k < l.length := by omega
    have hl := By.len hb
    obtain ⟨sl, rfl⟩ : ∃ sl, x = some sl := by
      cases x with
      | none => simp [lenO] at hl; omega
      | some sl => exact ⟨sl, rfl⟩
    refine depotref23_Blank_L0.go ?_
    unfold depotref23_Blank_L0w
    rw [hl, br_pos (by omega)]
    have hl : sl.len = l.length := hl
    simp only [ob_some, Int.toNat_natCast, Nat.mul_one, By.at_ hb hlt]
    rw [need_true (by omega)]
    simp only [chkInt_u8]
    rw [blankB_drop hlt, u8_ne_255] at he
    rw [wrap_i64 (by omega) (by omega)]
    refine br_intro (fun hb => ?_) fun hb => ?_
    · rw [hb] at he
      exact h1 (by simpa using he)
    · rw [hb] at he
      exact depotref23_Blank_L0_ok ‹_› hz h1 h2 n (k + 1) (by omega) (by simpa using he)

theorem depotref23_Blank_ok {x : Option Sl} {l : List UInt8} {h : AH} (hb : By h x l) (hz : l.length < 1000000) {K : Bool → AH → Prop} (hk : K (blankB l) h) : depotref23_Blank x h K := by
  refine depotref23_Blank.go ?_
  unfold depotref23_Blankw
  refine depotref23_Blank_L0_ok hb hz (fun e => ?_) (fun e => ?_) l.length 0 (by omega) (by simp)
  · rw [e] at hk; simpa using hk
  · rw [e] at hk; exact hk

theorem page_at_ok {b : Option Sl} {l : List UInt8} {h : AH} (hb : By h b l) (hl : l.length < 1000000) {a w : Nat} (hw : w ≤ 7) (hw1 : 1 ≤ w) (ha : a + w ≤ l.length) {K : Int → AH → Prop} (hk : K (leNat ((l.drop a).take w) : Nat) h) :
    page_at b (a : Int) (w : Int) h K := by
  refine page_at.go ?_
  unfold page_atw
  exact wire_Get_ok hb hl hw hw1 ha hk

end Go.Abs
