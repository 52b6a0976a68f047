/- Numbers as bytes: both texts. -/
import Derived.Test.YtdpecfeofcibhaaB3
namespace Go.Abs

/-- The byte of a number at a place. -/
def byteAt (m i : Nat) : UInt8 := UInt8.ofNat (m / 256 ^ i)
def leBytes (m w : Nat) : List UInt8 := (List.range w).map (byteAt m)
def leNat : List UInt8 → Nat
  | [] => 0
  | b :: l => b.toNat + 256 * leNat l
@[simp] theorem leBytes_length (m w : Nat) : (leBytes m w).length = w := by simp [leBytes]

theorem byteAt_toNat (m i : Nat) : (byteAt m i).toNat = m / 256 ^ i % 256 := by
  unfold byteAt
  rw [UInt8.toNat_ofNat']

theorem wrap_u8_nat (m : Nat) : (IntKind.wrap .u8 (m : Int)) = ((UInt8.ofNat m).toNat : Int) := by
  rw [wrap_u8, UInt8.toNat_ofNat']; omega

theorem fdiv_pow (m k : Nat) (hk : k < 8) : Int.fdiv (m : Int) (2 ^ (min (Int.toNat (8 * k : Nat)) (IntKind.bits .i64))) = ((m / 256 ^ k : Nat) : Int) := by
  have e : (2 : Int) ^ (min (Int.toNat (8 * k : Nat)) (IntKind.bits .i64)) = ((256 ^ k : Nat) : Int) := by
    rw [Int.toNat_natCast, Nat.min_eq_left (show 8 * k ≤ IntKind.bits .i64 from by show 8 * k ≤ 64; omega), show (2 : Int) ^ (8 * k) = ((2 ^ (8 * k) : Nat) : Int) from (by rw [Int.natCast_pow]; rfl), Nat.pow_mul]
  rw [e, Int.fdiv_eq_ediv_of_nonneg _ (Int.natCast_nonneg _)]
  rfl

theorem wire_of_L0_ok (m i : Nat) (z7 : Option (Nat × Nat)) {h0 : AH} {K : AH → Prop} (hk : ∀ h', Fr [i] h0 h' → h'[i]? = some (.cells ((List.range 8).map fun j => u8 (byteAt m j)) false) → K h') :
    ∀ (n k : Nat) (h : AH) (rest : List AV), k + n = 8 → Fr [i] h0 h → h[i]? = some (.cells (((List.range k).map fun j => u8 (byteAt m j)) ++ rest) false) → rest.length = n → wire_of_L0 (m : Int) z7 (some (i, 0)) (k : Int) h K
  | 0, k, h, rest, hn, hf, hi, hr => by
    refine wire_of_L0.go ?_
    unfold wire_of_L0w
    rw [br_neg (by omega)]
    simp only [AV.beq_self, guardR_true]
    refine hk h hf ?_
    obtain rfl : k = 8 := by omega
    obtain rfl := List.length_eq_zero_iff.1 hr
    simpa using hi
  | n + 1, k, h, rest, hn, hf, hi, hr => by
    refine wire_of_L0.go ?_
    unfold wire_of_L0w
    rw [br_pos (by omega), wrap_i64 (x := 8 * (k : Int)) (by omega) (by omega), if_neg (by omega)]
    simp only [ob_some]
    rw [need_true (by omega), show (8 * (k : Int)) = ((8 * k : Nat) : Int) by omega, fdiv_pow m k (by omega), wrap_u8_nat, wrap_i64 (by omega) (by omega)]
    obtain ⟨r, rest, rfl⟩ : ∃ r l, rest = r :: l := by
      cases rest with
      | nil => simp at hr
      | cons r l => exact ⟨r, l, rfl⟩
    rw [puts_of hi, if_pos (by simp), show (AV.int .u8 ((UInt8.ofNat (m / 256 ^ k)).toNat : Int)) = u8 (byteAt m k) from rfl]
    simp only [ob_some, Int.toNat_natCast, Nat.mul_one, Nat.zero_add]
    refine wire_of_L0_ok m i z7 hk n (k + 1) _ rest (by omega) (hf.set _ (.inl (by simp))) ?_ (by simpa using hr)
    have hlt := (List.getElem?_eq_some_iff.1 hi).1
    rw [List.getElem?_set_self hlt]
    congr 2
    rw [List.range_succ, List.map_append, List.take_append_of_le_length (by simp), List.drop_append]
    simp [List.take_of_length_le]

theorem wire_of_ok (m : Nat) {h : AH} {K : Int → Int → Int → Int → Int → Int → Int → Int → AH → Prop}
    (hk : ∀ h', Fr [] h h' → K (byteAt m 0).toNat (byteAt m 1).toNat (byteAt m 2).toNat (byteAt m 3).toNat (byteAt m 4).toNat (byteAt m 5).toNat (byteAt m 6).toNat (byteAt m 7).toNat h') : wire_of (m : Int) h K := by
  refine wire_of.go ?_
  unfold wire_ofw
  simp only [new_eq]
  have ea : (h ++ [ABlk.cells [.int .u8 0, .int .u8 0, .int .u8 0, .int .u8 0, .int .u8 0, .int .u8 0, .int .u8 0, .int .u8 0] false])[h.length]? = some (ABlk.cells [.int .u8 0, .int .u8 0, .int .u8 0, .int .u8 0, .int .u8 0, .int .u8 0, .int .u8 0, .int .u8 0] false) := by simp
  have fa := Fr.push [] h [ABlk.cells [.int .u8 0, .int .u8 0, .int .u8 0, .int .u8 0, .int .u8 0, .int .u8 0, .int .u8 0, .int .u8 0] false]
  generalize h ++ [ABlk.cells [.int .u8 0, .int .u8 0, .int .u8 0, .int .u8 0, .int .u8 0, .int .u8 0, .int .u8 0, .int .u8 0] false] = ha at ea fa ⊢
  have hla := (List.getElem?_eq_some_iff.1 ea).1
  refine wire_of_L0_ok m ha.length _ (h0 := ha ++ [.cells [.int .u8 0, .int .u8 0, .int .u8 0, .int .u8 0, .int .u8 0, .int .u8 0, .int .u8 0, .int .u8 0] false]) ?_ 8 0 _ [.int .u8 0, .int .u8 0, .int .u8 0, .int .u8 0, .int .u8 0, .int .u8 0, .int .u8 0, .int .u8 0] rfl (.refl _ _) (by simp) rfl
  intro h1 f1 e1
  have e0 := f1.app.keep ea (by simp; omega)
  have hlt := (List.getElem?_eq_some_iff.1 e0).1
  have e1' : h1[ha.length]? = some (.cells [u8 (byteAt m 0), u8 (byteAt m 1), u8 (byteAt m 2), u8 (byteAt m 3), u8 (byteAt m 4), u8 (byteAt m 5), u8 (byteAt m 6), u8 (byteAt m 7)] false) := e1
  refine ob_all e1' rfl ?_
  simp only [u8, ints8_eq]
  refine ob_puts e0 rfl (ob_all (get_set e0) rfl ?_)
  simp only [ints8_eq]
  exact hk _ ((fa.tr f1.app (by simp; exact fa.len)).set _ (.inr (Nat.le_refl _)))

theorem wire_Put_ok {b : Option Sl} {l : List UInt8} {m w : Nat} {h : AH} {K : Option Sl → Int → AH → Prop} (hb : By h b l) (hl : l.length < 1000000) (h1 : 1 ≤ w) (h7 : w ≤ 7) (hm : m < 256 ^ w)
    (hk : ∀ x' h', Own h' 1 x' (bys (l ++ leBytes m w)) → Fr [] h h' → (∀ i ∈ ids x', h.length ≤ i) → K x' 0 h') : wire_Put b (m : Int) (w : Int) h K := by
  refine wire_Put.go ?_
  unfold wire_Putw
  have e8 : IntKind.wrap .i64 (8 * (w : Int)) = ((8 * w : Nat) : Int) := by rw [wrap_i64 (by omega) (by omega)]; omega
  rw [br_neg (by omega), br_neg (by omega), br_neg (by omega), e8, if_neg (by omega), fdiv_pow m w (by omega), Nat.div_eq_of_lt hm, br_ne_eq (by omega)]
  refine wire_of_ok m fun h5 f5 => ?_
  refine new_i fun i15 h14 e14 f14 l14 => put_i e14 rfl fun h16 e16 f16 => ?_
  have f16' : Fr [] h h16 := (f5.trans f14).tr f16 (by have := f5.len; simp; omega)
  have el := By.len hb
  have ew : IntKind.wrap .i64 (((lenO b : Nat) : Int) + (w : Int)) = ((l.length + w : Nat) : Int) := by rw [el, wrap_i64 (by omega) (by omega)]; omega
  rw [ew, Int.toNat_natCast, need_true (by omega)]
  have hrep : ∀ n, repZero [.int .u8 0] n = List.replicate n (.int .u8 0 : AV) := by
    intro n
    induction n with
    | zero => rfl
    | succ n ih => simp [repZero, ih, List.replicate_succ]
  refine new_i fun i18 h17 e17 f17 l17 => ?_
  have f17' := f16'.trans f17
  have o1 : Own h17 1 (some ⟨i18, 0, Int.toNat 0, l.length + w, none⟩) [] :=
    ⟨.inl rfl, by simp, by simp, rfl, repZero [.int .u8 0] (l.length + w), by simpa using e17, by simp [hrep]⟩
  refine append_own (bytes := 1) o1 (fun K' => aNews_at (hb.kept f17') (by decide) K') (by simp [el]) (bys_scal l) (by show (0 + lenO b) * 1 ≤ _; omega) fun s21 h22 o22 f22 i22 => ?_
  rw [need_true (by omega)]
  have hl16 := f16'.len
  have e22 : h22[i15]? = some (.cells (bys (leBytes m 8)) false) := by
    refine f22.keep (f17.kept e16) ?_
    have := (List.getElem?_eq_some_iff.1 e16).1
    simp [ids]; omega
  have hsl : SlAt h22 1 (some ⟨i15, if 8 = 0 then 0 else 0 + 0 * 1, Int.toNat (w : Int) - 0, 8 - 0, none⟩) (bys (leBytes m w)) := by
    rw [Int.toNat_natCast]
    refine SlAt.lit ?_ (by omega)
    rw [cellsAt_of e22]
    simp only [Nat.reduceEqDiff, if_false, Nat.zero_mul, Nat.add_zero, Nat.zero_add, Nat.sub_zero, Nat.mul_one, List.drop_zero, bys_length, leBytes_length]
    rw [if_pos (by omega), bys_take]
    congr 2
    unfold leBytes
    rw [← List.map_take, List.take_range, Nat.min_eq_left (by omega)]
  have el2 : lenO s21 = l.length := by have := o22.slAt.len; simpa using this
  refine append_own (bytes := 1) o22 (fun K' => aNews_at hsl (by decide) K') (by simp [lenO]) (bys_scal _) (by show (lenO s21 + (Int.toNat (w : Int) - 0)) * 1 ≤ _; omega) fun x' h' o' f' i' => ?_
  have hh : ∀ i ∈ ids s21, h.length ≤ i := by
    intro i hi
    rcases i22 i hi with h1 | h1
    · simp [ids] at h1; omega
    · have := f17'.len; omega
  refine hk x' h' (by simpa using o') ((f17'.tr f22 (by simp [ids]; omega)).tr f' hh) fun i hi => ?_
  rcases i' i hi with h1 | h1
  · exact hh i h1
  · have := f17'.len; have := f22.len; omega

/-! Reading a number. -/

theorem leNat_append : ∀ (a b : List UInt8), leNat (a ++ b) = leNat a + 256 ^ a.length * leNat b
  | [], b => by simp [leNat]
  | x :: a, b => by
    simp only [List.cons_append, leNat, leNat_append a b, List.length_cons, Nat.pow_succ, Nat.mul_add]
    rw [Nat.mul_comm (256 ^ a.length) 256, Nat.mul_assoc]; omega
theorem leNat_lt : ∀ l : List UInt8, leNat l < 256 ^ l.length
  | [] => by simp [leNat]
  | b :: l => by
    have := leNat_lt l
    have := b.toNat_lt
    simp only [leNat, List.length_cons, Nat.pow_succ]
    omega

theorem wrap_u8i64 (b : UInt8) : IntKind.wrap .i64 (b.toNat : Int) = b.toNat := wrap_i64_lt (by have := b.toNat_lt; omega)

theorem pow_le7 {k : Nat} (hk : k ≤ 7) : 256 ^ k ≤ 72057594037927936 := by
  have : 256 ^ k ≤ 256 ^ 7 := Nat.pow_le_pow_right (by decide) hk
  simpa using this

theorem wire_Get_L0_ok {b : Option Sl} {l : List UInt8} {h : AH} (hb : By h b l) (hl : l.length < 1000000) {a w : Nat} (hw : w ≤ 7) (hw1 : 1 ≤ w) (ha : a + w ≤ l.length) {K : Int → AH → Prop} (hk : K (leNat ((l.drop a).take w) : Nat) h) :
    ∀ (n k : Nat), k + n = w → wire_Get_L0 b (a : Int) (leNat ((l.drop a).take k) : Nat) ((256 ^ k : Nat) : Int) (w : Int) (k : Int) h K
  | 0, k, hn => by
    refine wire_Get_L0.go ?_
    unfold wire_Get_L0w
    rw [br_neg (by omega)]
    obtain rfl : k = w := by omega
    exact hk
  | n + 1, k, hn => by
    refine wire_Get_L0.go ?_
    unfold wire_Get_L0w
    obtain ⟨s, rfl⟩ : ∃ s, b = some s := by
      cases b with
      | none => have := By.len hb; simp [lenO] at this; omega
      | some s => exact ⟨s, rfl⟩
    have hs : s.len = l.length := By.len hb
    have e1 : IntKind.wrap .i64 ((a : Int) + (k : Int)) = ((a + k : Nat) : Int) := by rw [wrap_i64 (by omega) (by omega)]; omega
    have hlt : a + k < l.length := by omega
    rw [br_pos (by omega)]
    simp only [ob_some, e1, Int.toNat_natCast, Nat.mul_one]
    rw [need_true (by omega), By.at_ hb hlt]
    simp only [ob_some, chkInt_u8, wrap_u8i64]
    have hp := pow_le7 (show k ≤ 7 by omega)
    have hp2 := pow_le7 (show k + 1 ≤ 7 by omega)
    have hbl := (l[a + k]).toNat_lt
    have hle : leNat ((l.drop a).take k) < 256 ^ k := by
      have := leNat_lt ((l.drop a).take k)
      rwa [List.length_take, List.length_drop, Nat.min_eq_left (by omega)] at this
    have hmul : 256 ^ k * (l[a + k]).toNat ≤ 256 ^ k * 255 := Nat.mul_le_mul_left _ (by omega)
    have e2 : ((256 ^ k : Nat) : Int) * ((l[a + k]).toNat : Int) = ((256 ^ k * (l[a + k]).toNat : Nat) : Int) := by rw [Int.natCast_mul]
    have e3 : leNat ((l.drop a).take (k + 1)) = leNat ((l.drop a).take k) + 256 ^ k * (l[a + k]).toNat := by
      rw [List.take_add_one, leNat_append, List.length_take, List.length_drop, Nat.min_eq_left (by omega), List.getElem?_drop, List.getElem?_eq_getElem hlt]
      simp [leNat]
    rw [e2, wrap_i64_lt (by omega), wrap_i64 (by omega) (by omega), wrap_i64 (x := ((256 ^ k : Nat) : Int) * 256) (by omega) (by omega), wrap_i64 (by omega) (by omega)]
    have := wire_Get_L0_ok hb hl hw hw1 ha hk n (k + 1) (by omega)
    rw [e3, Nat.pow_succ] at this
    rw [Int.natCast_add, Int.natCast_mul, Int.natCast_mul] at this
    exact this

theorem wire_Get_ok {b : Option Sl} {l : List UInt8} {h : AH} (hb : By h b l) (hl : l.length < 1000000) {a w : Nat} (hw : w ≤ 7) (hw1 : 1 ≤ w) (ha : a + w ≤ l.length) {K : Int → Int → AH → Prop} (hk : K (leNat ((l.drop a).take w) : Nat) 0 h) :
    wire_Get b (a : Int) (w : Int) h K := by
  refine wire_Get.go ?_
  unfold wire_Getw
  rw [By.len hb, br_neg (by omega), br_neg (by omega), br_neg (by omega), br_neg (by omega), wrap_i64 (by omega) (by omega), br_neg (by omega)]
  exact wire_Get_L0_ok hb hl hw hw1 ha (K := fun u h => K u 0 h) hk w 0 (by omega)

theorem depotref03_Get_L0_ok {b : Option Sl} {l : List UInt8} {h : AH} (hb : By h b l) (hl : l.length < 1000000) {a w : Nat} (hw : w ≤ 7) (ha : a + w ≤ l.length) {K : Int → AH → Prop} (hk : K (leNat ((l.drop a).take w) : Nat) h) :
    ∀ (n : Nat), n ≤ w → depotref03_Get_L0 b (a : Int) (leNat ((l.drop (a + n)).take (w - n)) : Nat) ((n : Int) - 1) h K
  | 0, hn => by
    refine depotref03_Get_L0.go ?_
    unfold depotref03_Get_L0w
    rw [br_neg (by omega)]
    exact hk
  | n + 1, hn => by
    refine depotref03_Get_L0.go ?_
    unfold depotref03_Get_L0w
    obtain ⟨s, rfl⟩ : ∃ s, b = some s := by
      cases b with
      | none => have := By.len hb; simp [lenO] at this; omega
      | some s => exact ⟨s, rfl⟩
    have hs : s.len = l.length := By.len hb
    have e1 : IntKind.wrap .i64 ((a : Int) + (((n + 1 : Nat) : Int) - 1)) = ((a + n : Nat) : Int) := by rw [wrap_i64 (by omega) (by omega)]; omega
    have hlt : a + n < l.length := by omega
    rw [br_pos (by omega)]
    simp only [ob_some, e1, Int.toNat_natCast, Nat.mul_one]
    rw [need_true (by omega), By.at_ hb hlt]
    simp only [ob_some, chkInt_u8, wrap_u8i64]
    have hp2 := pow_le7 (show w - (n + 1) ≤ 7 by omega)
    have hp3 : 256 ^ (w - n) = 256 ^ (w - (n + 1)) * 256 := by rw [← Nat.pow_succ]; congr 1; omega
    have hp4 := pow_le7 (show w - n ≤ 7 by omega)
    have hbl := (l[a + n]).toNat_lt
    have hle : leNat ((l.drop (a + (n + 1))).take (w - (n + 1))) < 256 ^ (w - (n + 1)) := by
      have := leNat_lt ((l.drop (a + (n + 1))).take (w - (n + 1)))
      rwa [List.length_take, List.length_drop, Nat.min_eq_left (by omega)] at this
    have e3 : leNat ((l.drop (a + n)).take (w - n)) = 256 * leNat ((l.drop (a + (n + 1))).take (w - (n + 1))) + (l[a + n]).toNat := by
      rw [List.drop_eq_getElem_cons hlt, show w - n = (w - (n + 1)) + 1 by omega, List.take_succ_cons]
      simp only [leNat]
      rw [show a + n + 1 = a + (n + 1) by omega]
      omega
    rw [wrap_i64 (x := 256 * _) (by omega) (by omega), wrap_i64 (by omega) (by omega), wrap_i64 (by omega) (by omega)]
    have := depotref03_Get_L0_ok hb hl hw ha hk n (by omega)
    rw [e3, Int.natCast_add, Int.natCast_mul] at this
    rw [show ((n + 1 : Nat) : Int) - 1 - 1 = (n : Int) - 1 by omega]
    exact this

theorem depotref03_Get_ok {b : Option Sl} {l : List UInt8} {h : AH} (hb : By h b l) (hl : l.length < 1000000) {a w : Nat} (hw : w ≤ 7) (hw1 : 1 ≤ w) (ha : a + w ≤ l.length) {K : Int → Int → AH → Prop} (hk : K (leNat ((l.drop a).take w) : Nat) 0 h) :
    depotref03_Get b (a : Int) (w : Int) h K := by
  refine depotref03_Get.go ?_
  unfold depotref03_Getw
  rw [By.len hb, br_neg (by omega), br_neg (by omega), br_neg (by omega), br_neg (by omega), wrap_i64 (by omega) (by omega), br_neg (by omega), wrap_i64 (by omega) (by omega)]
  have := depotref03_Get_L0_ok hb hl hw ha (K := fun u h => K u 0 h) hk w (Nat.le_refl _)
  simpa [leNat] using this

theorem depotref03_Put_L0_ok (m w : Nat) (hw : w ≤ 7) (hm : m < 256 ^ w) {h0 : AH} {K : Option Sl → Int → AH → Prop} {l : List UInt8} (hl : l.length < 1000000)
    (hk : ∀ x' h', Own h' 1 x' (bys (l ++ leBytes m w)) → Fr [] h0 h' → (∀ i ∈ ids x', h0.length ≤ i) → K x' 0 h') :
    ∀ (n k : Nat) (x : Option Sl) (h : AH), k + n = w → Own h 1 x (bys (l ++ leBytes m k)) → Fr [] h0 h → (∀ i ∈ ids x, h0.length ≤ i) → depotref03_Put_L0 (m : Int) (w : Int) x ((m / 256 ^ k : Nat) : Int) (k : Int) h K
  | 0, k, x, h, hn, o, f, hi => by
    refine depotref03_Put_L0.go ?_
    unfold depotref03_Put_L0w
    rw [br_neg (by omega)]
    simp only [AV.beq_self, guardR_true]
    obtain rfl : k = w := by omega
    rw [Nat.div_eq_of_lt hm]
    exact hk x h o f hi
  | n + 1, k, x, h, hn, o, f, hi => by
    refine depotref03_Put_L0.go ?_
    unfold depotref03_Put_L0w
    have hq := pow_le7 hw
    have hd : m / 256 ^ k ≤ m := Nat.div_le_self _ _
    have e1 : IntKind.wrap .u8 (Int.tmod ((m / 256 ^ k : Nat) : Int) 256) = ((byteAt m k).toNat : Int) := by
      rw [byteAt_toNat]
      generalize m / 256 ^ k = q
      rw [Int.tmod_eq_emod_of_nonneg (by omega), wrap_u8]; omega
    have e2 : IntKind.wrap .i64 (Int.tdiv ((m / 256 ^ k : Nat) : Int) 256) = ((m / 256 ^ (k + 1) : Nat) : Int) := by
      rw [Nat.pow_succ, ← Nat.div_div_eq_div_mul]
      generalize m / 256 ^ k = q at hd
      rw [Int.tdiv_eq_ediv_of_nonneg (by omega), wrap_i64 (by omega) (by omega)]; omega
    rw [br_pos (by omega), e1, e2, wrap_i64 (by omega) (by omega)]
    refine new_i fun i25 h24 e24 f24 l24 => ?_
    have hx := o.kept f24
    have hs : SlAt h24 1 (some ⟨i25, 0, 1, 1, none⟩) (bys [byteAt m k]) := SlAt.made e24 rfl
    have el : lenO x = l.length + k := by have := o.slAt.len; simpa using this
    refine append_own (bytes := 1) hx (fun K' => aNews_at hs (by decide) K') (by simp [lenO]) (bys_scal _) (by show (lenO x + 1) * 1 ≤ _; omega) fun x' h' o' f' i' => ?_
    refine depotref03_Put_L0_ok m w hw hm hl hk n (k + 1) x' h' (by omega) ?_ ((f.trans f24).tr f' hi) fun i hi' => ?_
    · rw [show leBytes m (k + 1) = leBytes m k ++ [byteAt m k] by simp [leBytes, List.range_succ], ← List.append_assoc, bys_append (l ++ _)]
      exact o'
    · rcases i' i hi' with h1 | h1
      · exact hi i h1
      · have := f.len; have := f24.len; omega

theorem depotref03_Put_ok {b : Option Sl} {l : List UInt8} {m w : Nat} {h : AH} {K : Option Sl → Int → AH → Prop} (hb : By h b l) (hl : l.length < 1000000) (h1 : 1 ≤ w) (h7 : w ≤ 7) (hm : m < 256 ^ w)
    (hk : ∀ x' h', Own h' 1 x' (bys (l ++ leBytes m w)) → Fr [] h h' → (∀ i ∈ ids x', h.length ≤ i) → K x' 0 h') : depotref03_Put b (m : Int) (w : Int) h K := by
  refine depotref03_Put.go ?_
  unfold depotref03_Putw
  rw [br_neg (by omega), br_neg (by omega)]
  refine new_i fun i5 h4 e4 f4 l4 => ?_
  have o1 : Own h4 1 (some ⟨i5, 0, 0, 0, none⟩) [] := Own.made e4 (by simp)
  refine append_own (bytes := 1) o1 (fun K' => aNews_at (hb.kept f4) (by decide) K') (by simp [By.len hb]) (bys_scal l) (by show (0 + lenO b) * 1 ≤ _; rw [By.len hb]; omega) fun x h' o f i => ?_
  have hi : ∀ j ∈ ids x, h.length ≤ j := by
    intro j hj
    rcases i j hj with h1 | h1
    · simp [ids] at h1; omega
    · have := f4.len; omega
  have := depotref03_Put_L0_ok m w h7 hm (h0 := h) (K := fun u31 u32 h30 => br (decide ((m : Int) < 0)) (K none 3 h30) (br (decide (u32 > 0)) (K none 3 h30) (K u31 0 h30))) hl (fun x' h' o' f' i' => by
    rw [br_neg (by omega), br_neg (by omega)]
    exact hk x' h' o' f' i') w 0 x h' (by omega) (by simpa [leBytes] using o) (f4.tr f (by simp [ids]; omega)) hi
  simpa using this

end Go.Abs
