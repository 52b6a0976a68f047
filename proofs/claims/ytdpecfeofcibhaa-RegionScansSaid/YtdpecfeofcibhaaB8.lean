/- What an image says: both texts. -/
import Derived.Test.YtdpecfeofcibhaaB7
namespace Go.Abs

theorem ob_i {α : Type} {x : Option α} {a : α} {K : α → Prop} (e : x = some a) (hk : K a) : ob x K := by rw [e]; exact hk
theorem need_i {c : Prop} [Decidable c] {A : Prop} (h : c) (hk : A) : need c A := need_iff.2 ⟨h, hk⟩
theorem guardR_i {c : Bool} {A : Prop} (h : c = true) (hk : A) : guardR c A := by rw [h]; exact hk

/-! ## Pieces -/

theorem SlOk.cutOk {sz : Nat} {s : Sl} (o : SlOk sz s) : s.cutOk sz = true := by
  unfold Sl.cutOk
  rcases o.slack with h | h | ⟨h, _⟩ <;> simp [h]
theorem SlAt.cutOk {h : AH} {sz : Nat} {x : Option Sl} {cs : List AV} (a : SlAt h sz x cs) : cutOkO sz x = true := by
  cases x with
  | none => rfl
  | some s => exact a.1.cutOk
theorem SlAt.cut {h : AH} {sz : Nat} {x : Option Sl} {cs : List AV} (a : SlAt h sz x cs) (hz : sz ≠ 0) {l m : Nat} (hl : l ≤ m) (hm : m ≤ lenO x) : SlAt h sz (cutO sz l m x) ((cs.drop (l * sz)).take ((m - l) * sz)) := by
  cases x with
  | none =>
    cases a
    show List.take _ (List.drop _ []) = []
    simp
  | some s =>
    obtain ⟨⟨hle, hsl⟩, hlen, hc⟩ := a
    have hm : m ≤ s.len := hm
    have hbound : m * sz ≤ cs.length := by rw [← hlen]; exact Nat.mul_le_mul_right _ hm
    have hdl : ((cs.drop (l * sz)).take ((m - l) * sz)).length = (m - l) * sz := by
      rw [List.length_take, List.length_drop, Nat.min_eq_left]
      rw [Nat.sub_mul]; omega
    have hsub : (cs.drop (l * sz)).take ((m - l) * sz) ≠ [] → h.cellsAt s.id (s.off + l * sz) ((m - l) * sz) = some ((cs.drop (l * sz)).take ((m - l) * sz)) := by
      intro hne
      have hcs : cs ≠ [] := by rintro rfl; simp at hne
      refine cellsAt_sub (hc hcs) ?_
      rw [hlen, ← Nat.add_mul, Nat.add_sub_cancel' hl]; exact hbound
    have hpos : (cs.drop (l * sz)).take ((m - l) * sz) ≠ [] → l < m := by
      intro hne
      rcases Nat.lt_or_ge l m with h1 | h1
      · exact h1
      · exfalso; apply hne; rw [show m - l = 0 by omega]; simp
    show SlAt h sz (some (s.cut sz l m)) _
    unfold Sl.cut
    by_cases h1 : s.slack = none
    · rw [if_pos h1]
      refine ⟨⟨by show m - l ≤ s.cap - l; omega, .inl rfl⟩, hdl.symm, fun hne => ?_⟩
      have := hpos hne
      show h.cellsAt s.id (if s.cap = l then s.off else s.off + l * sz) ((m - l) * sz) = _
      rw [if_neg (by omega)]
      exact hsub hne
    · rw [if_neg h1]
      by_cases h2 : s.slack = some sz ∧ (l < s.cap ∨ l = 0)
      · rw [if_pos h2]
        exact ⟨⟨by show m - l ≤ s.cap - l; omega, .inr (.inl h2.1)⟩, hdl.symm, hsub⟩
      · rw [if_neg h2]
        have h0 : m - l = 0 := by
          rcases hsl with h3 | h3 | ⟨h3, h4⟩
          · exact absurd h3 h1
          · have : ¬(l < s.cap ∨ l = 0) := fun h5 => h2 ⟨h3, h5⟩
            omega
          · omega
        refine ⟨⟨Nat.le_refl _, .inr (.inr ⟨rfl, rfl⟩)⟩, ?_, fun hne => ?_⟩
        · rw [hdl, h0]
        · have := hpos hne; omega
theorem By.cut {h : AH} {x : Option Sl} {l : List UInt8} (a : By h x l) {i j : Nat} (hi : i ≤ j) (hj : j ≤ l.length) : By h (cutO 1 i j x) ((l.drop i).take (j - i)) := by
  have := SlAt.cut a (by decide) hi (by rw [By.len a]; exact hj)
  rw [Nat.mul_one, Nat.mul_one, bys_drop, bys_take] at this
  exact this
theorem lenO_cut {h : AH} {x : Option Sl} {l : List UInt8} (a : By h x l) {i j : Nat} (hi : i ≤ j) (hj : j ≤ l.length) : lenO (cutO 1 i j x) = j - i := by
  rw [By.len (a.cut hi hj), List.length_take, List.length_drop]; omega

/-! ## Fields -/

def getB (l : List UInt8) (i : Nat) : UInt8 := l.getD i 0
theorem getB_eq {l : List UInt8} {i : Nat} (hi : i < l.length) : l[i] = getB l i := by simp [getB, hi]
theorem By.atB {h : AH} {s : Sl} {l : List UInt8} (a : By h (some s) l) {k : Nat} (hk : k < l.length) : h.cell s.id (s.off + k) = some (u8 (getB l k)) := by
  rw [a.at_ hk, getB_eq hk]
theorem byte_i {h : AH} {s : Sl} {l : List UInt8} (a : By h (some s) l) {i : Int} (k : Nat) (hi : i = k) (hk : k < l.length) {K : Int → Prop} (hK : K ((getB l k).toNat : Int)) :
    need ((0 : Int) ≤ i ∧ i < ((s.len : Nat) : Int)) (ob (AH.cell h s.id (s.off + Int.toNat i * 1)) fun v => chkInt .u8 v K) := by
  subst hi
  have hl : s.len = l.length := By.len a
  refine need_i (by omega) (ob_i (a := u8 (getB l k)) ?_ (by rw [chkInt_u8]; exact hK))
  rw [Int.toNat_natCast, Nat.mul_one]; exact a.atB hk
theorem req_cell {h : AH} {i o : Nat} {v : AV} (e : h.cell i o = some v) : Req.ok h (.cells i o 1 [v]) = true := by
  unfold AH.cell at e
  cases hr : h.row i with
  | none => simp [hr] at e
  | some c =>
    rw [hr, Option.bind_some] at e
    obtain ⟨hlt, hv⟩ := List.getElem?_eq_some_iff.1 e
    have : h.cellsAt i o 1 = some [v] := by
      unfold AH.cellsAt
      rw [hr, Option.bind_some, if_pos (by omega), List.drop_eq_getElem_cons hlt, hv]
      simp
    simp [Req.ok, this]
theorem req_cells {h : AH} {i o n : Nat} {cs : List AV} (e : h.cellsAt i o n = some cs) : Req.ok h (.cells i o n cs) = true := by simp [Req.ok, e]
theorem req_byte {h : AH} {s : Sl} {l : List UInt8} (a : By h (some s) l) {i : Int} (k : Nat) (hi : i = k) (hk : k < l.length) : Req.ok h (.cells s.id (s.off + Int.toNat i * 1) 1 [.int .u8 ((getB l k).toNat : Int)]) = true := by
  subst hi
  rw [Int.toNat_natCast, Nat.mul_one]; exact req_cell (a.atB hk)

/-- A struct of five integers is written and answered. -/
theorem ret5 {h : AH} {i : Nat} {c : List AV} {a1 a2 a3 a4 a5 : Int} {K : Int → Int → Int → Int → Int → AH → Prop} (e0 : h[i]? = some (.cells c false)) (hl : c.length = 5) (hk : ∀ h', Fr [i] h h' → K a1 a2 a3 a4 a5 h') :
    ob (h.puts i 0 [.int .i64 a1, .int .i64 a2, .int .i64 a3, .int .i64 a4, .int .i64 a5]) fun h' => ob (h'.cellsAt i 0 5) fun cs => ints5 .i64 cs fun n1 n2 n3 n4 n5 => K n1 n2 n3 n4 n5 h' := by
  refine put_i e0 (by simp [hl]) fun h' e' f' => ob_all e' rfl ?_
  rw [ints5_eq]
  exact hk h' f'

/-! ## What an image says -/

def pEp (l : List UInt8) : Nat := leNat ((l.drop 4).take 4)
def pLen (l : List UInt8) : Nat := leNat ((l.drop 10).take 2)
def pSum (l : List UInt8) : Nat := leNat ((l.drop (l.length - 4)).take 4)
def pLoad (l : List UInt8) : List UInt8 := (l.drop 12).take (pLen l)
def pHeadE (l : List UInt8) : Int := headE (getB l 0).toNat (getB l 1).toNat (getB l 2).toNat (pEp l) (getB l 8).toNat
def zeros (l : List UInt8) : Bool := l.all (· == 0)
def pPad (l : List UInt8) : List UInt8 := (l.drop (12 + pLen l)).take (l.length - 4 - (12 + pLen l))
/-- Why an image is none; 0: it is one. -/
def parseE (l : List UInt8) : Int :=
  if sizedB l.length = false then 2
  else if blankB l = true then 15
  else if crcSum (l.take (l.length - 4)) ≠ pSum l then 12
  else if getB l 3 = 165 ∧ getB l 9 = 0 ∧ pLen l ≤ l.length - 16 ∧ pHeadE l = 0 ∧ zeros (pPad l) = true then 0
  else 5
def ifOk (l : List UInt8) (n : Int) : Int := if parseE l = 0 then n else 0

theorem parseE_2 {l : List UInt8} (h : sizedB l.length = false) : parseE l = 2 := if_pos h
theorem parseE_15 {l : List UInt8} (h : sizedB l.length = true) (h2 : blankB l = true) : parseE l = 15 := by unfold parseE; rw [if_neg (by simp [h]), if_pos h2]
theorem parseE_12 {l : List UInt8} (h : sizedB l.length = true) (h2 : blankB l = false) (h3 : crcSum (l.take (l.length - 4)) ≠ pSum l) : parseE l = 12 := by unfold parseE; rw [if_neg (by simp [h]), if_neg (by simp [h2]), if_pos h3]
theorem parseE_5 {l : List UInt8} (h : sizedB l.length = true) (h2 : blankB l = false) (h3 : crcSum (l.take (l.length - 4)) = pSum l) (h4 : ¬(getB l 3 = 165 ∧ getB l 9 = 0 ∧ pLen l ≤ l.length - 16 ∧ pHeadE l = 0 ∧ zeros (pPad l) = true)) : parseE l = 5 := by
  unfold parseE; rw [if_neg (by simp [h]), if_neg (by simp [h2]), if_neg (by simp [h3]), if_neg h4]
theorem parseE_0 {l : List UInt8} (h : sizedB l.length = true) (h2 : blankB l = false) (h3 : crcSum (l.take (l.length - 4)) = pSum l) (h4 : getB l 3 = 165 ∧ getB l 9 = 0 ∧ pLen l ≤ l.length - 16 ∧ pHeadE l = 0 ∧ zeros (pPad l) = true) : parseE l = 0 := by
  unfold parseE; rw [if_neg (by simp [h]), if_neg (by simp [h2]), if_neg (by simp [h3]), if_pos h4]

theorem slId_ids {x : Option Sl} : ∀ i ∈ slId x, i ∈ ids x := by
  cases x with
  | none => simp [slId]
  | some s => intro i hi; simp only [slId] at hi; split at hi <;> simp_all [ids]

/-- The answer of a parse. -/
def ParseK (h : AH) (l : List UInt8) (K : Int → Int → Int → Int → Int → Option Sl → Int → AH → Prop) : Prop :=
  ∀ x' h', (parseE l = 0 → By h' x' (pLoad l)) → (parseE l ≠ 0 → x' = none) → Fr [] h h' → (∀ i ∈ slId x', h.length ≤ i) →
    K (ifOk l (getB l 0).toNat) (ifOk l (getB l 1).toNat) (ifOk l (getB l 2).toNat) (ifOk l (pEp l)) (ifOk l (getB l 8).toNat) x' (parseE l) h'

theorem ParseK.fail {h h' : AH} {l : List UInt8} {K : Int → Int → Int → Int → Int → Option Sl → Int → AH → Prop} (hk : ParseK h l K) {e : Int} (he : parseE l = e) (h0 : e ≠ 0) (f : Fr [] h h') : K 0 0 0 0 0 none e h' := by
  have hn : parseE l ≠ 0 := by rw [he]; exact h0
  have := hk none h' (fun h => absurd h hn) (fun _ => rfl) f (by simp [slId])
  rw [he] at this
  simpa [ifOk, if_neg hn] using this

theorem zeros_drop {l : List UInt8} {k : Nat} (hk : k < l.length) : zeros (l.drop k) = (l[k] == 0 && zeros (l.drop (k + 1))) := by
  rw [List.drop_eq_getElem_cons hk]; rfl
theorem u8_ne_0 {b : UInt8} : (b == 0) = !((b.toNat : Int) != 0) := by
  by_cases h : b = 0
  · subst h; rfl
  · have : ¬(b.toNat : Int) = 0 := fun e => h (UInt8.toNat_inj.1 (by show b.toNat = 0; omega))
    have e1 : (b == 0) = false := beq_eq_false_iff_ne.2 h
    have e2 : ((b.toNat : Int) != 0) = true := bne_iff_ne.2 this
    rw [e1, e2]; rfl

theorem page_Parse_L0_ok {z185 : Option Sl} {i3 : Nat} {z187 : Option (Nat × Nat)} {z188 : Int} {x : Option Sl} {l : List UInt8} {h : AH} (hb : By h x l) (hz : l.length < 1000000) {c : List AV} (e3 : h[i3]? = some (.cells c false)) (hc : c.length = 5) {Kr K1 : AV → AV → AH → Prop}
    (h1 : zeros l = false → ∀ h', h'[i3]? = some (.cells [.int .i64 0, .int .i64 0, .int .i64 0, .int .i64 0, .int .i64 0] false) → Fr [i3] h h' → Kr (.slice none) (.int .i64 5) h') (h2 : zeros l = true → K1 .bot .bot h) :
    ∀ (n k : Nat), k + n = l.length → zeros l = zeros (l.drop k) → page_Parse_L0 z185 (some (i3, 0)) z187 z188 x (l.length : Int) (k : Int) h Kr K1
  | 0, k, hn, he => by
    refine page_Parse_L0.go ?_
    unfold page_Parse_L0w
    rw [br_neg (by omega)]
    rw [List.drop_of_length_le (by omega)] at he
    simp only [AV.beq_self, guardR_true]
    exact h2 he
  | n + 1, k, hn, he => by
    have hlt : k < l.length := by omega
    have hl := By.len hb
    obtain ⟨sl, rfl⟩ : ∃ sl, x = some sl := by
      cases x with
      | none => simp [lenO] at hl; omega
      | some sl => exact ⟨sl, rfl⟩
    refine page_Parse_L0.go ?_
    unfold page_Parse_L0w
    rw [br_pos (by omega)]
    simp only [ob_some]
    refine byte_i hb k rfl hlt ?_
    rw [zeros_drop hlt, u8_ne_0, getB_eq hlt] at he
    rw [wrap_i64 (by omega) (by omega)]
    refine br_intro (fun hb => ?_) fun hb' => ?_
    · rw [hb] at he
      refine put_i e3 (by simp [hc]) fun h' e' f' => ?_
      simp only [AV.beq_self, guardR_true]
      exact h1 (by simpa using he) h' e' f'
    · rw [hb'] at he
      exact page_Parse_L0_ok hb hz e3 hc h1 h2 n (k + 1) (by omega) (by simpa using he)

theorem leNat_lt_of {l : List UInt8} {n : Nat} (h : l.length ≤ n) : leNat l < 256 ^ n :=
  Nat.lt_of_lt_of_le (leNat_lt l) (Nat.pow_le_pow_right (by decide) h)
theorem pLen_lt (l : List UInt8) : pLen l < 65536 := leNat_lt_of (n := 2) (by simp; omega)
theorem pEp_lt (l : List UInt8) : pEp l < 4294967296 := leNat_lt_of (n := 4) (by simp; omega)

theorem page_Parse_ok {b : Option Sl} {l : List UInt8} {h : AH} (hb : By h b l) (hl : l.length < 1000000) {K : Int → Int → Int → Int → Int → Option Sl → Int → AH → Prop} (hk : ParseK h l K) : page_Parse b h K := by
  refine page_Parse.go ?_
  unfold page_Parsew
  refine new_i fun i3 h2 e3 f3 l3 => page_sized_ok ?_
  rw [By.len hb]
  by_cases hs : sizedB l.length = true
  case neg =>
    have hs' : sizedB l.length = false := by simpa using hs
    rw [hs']
    exact ret5 e3 rfl fun h' f' => hk.fail (parseE_2 hs') (by decide) (f3.tr f' (by simpa using l3))
  have hs2 := sizedB_iff.1 hs
  rw [hs]
  simp only [Bool.not_true, br_false]
  have hb2 := hb.kept f3
  refine page_Blank_ok hb2 hl ?_
  by_cases hbl : blankB l = true
  · rw [hbl]
    exact ret5 e3 rfl fun h' f' => hk.fail (parseE_15 hs hbl) (by decide) (f3.tr f' (by simpa using l3))
  have hbl' : blankB l = false := by simpa using hbl
  rw [hbl']
  simp only [br_false]
  refine hold0_i ?_
  have ew : IntKind.wrap .i64 ((l.length : Int) - 4) = ((l.length - 4 : Nat) : Int) := by rw [wrap_i64 (by omega) (by omega)]; omega
  rw [ew]
  refine need_i (by omega) (guardR_i hb.cutOk ?_)
  refine page_at_ok (w := 4) hb2 hl (by omega) (by omega) (by omega) ?_
  rw [Int.toNat_natCast]
  have hcut := By.cut hb2 (i := 0) (j := l.length - 4) (by omega) (by omega)
  rw [List.drop_zero, Nat.sub_zero] at hcut
  refine crc_Check_ok hcut (by simp; omega) ?_
  by_cases hsum : crcSum (l.take (l.length - 4)) = pSum l
  case neg =>
    have e : (((crcSum (l.take (l.length - 4)) : Nat) : Int) == ((leNat ((l.drop (l.length - 4)).take 4) : Nat) : Int)) = false := by
      rw [beq_eq_false_iff_ne]; intro h; exact hsum (by unfold pSum; omega)
    rw [e]
    exact ret5 e3 rfl fun h' f' => hk.fail (parseE_12 hs hbl' hsum) (by decide) (f3.tr f' (by simpa using l3))
  have e : (((crcSum (l.take (l.length - 4)) : Nat) : Int) == ((leNat ((l.drop (l.length - 4)).take 4) : Nat) : Int)) = true := by
    rw [beq_iff_eq]; unfold pSum at hsum; omega
  rw [e]
  simp only [Bool.not_true, br_false]
  obtain ⟨s, rfl⟩ : ∃ s, b = some s := by
    cases b with
    | none => have := By.len hb; simp [lenO] at this; omega
    | some s => exact ⟨s, rfl⟩
  refine hold_i fun h68 f68 u68 => ?_
  simp only [ob_some]
  have f68' := f3.trans f68
  have hb68 := hb.kept f68'
  refine byte_i hb68 0 rfl (by omega) (byte_i hb68 1 rfl (by omega) (byte_i hb68 2 rfl (by omega) (byte_i hb68 8 rfl (by omega) ?_)))
  refine page_at_ok (a := 4) (w := 4) hb68 hl (by omega) (by omega) (by omega) ?_
  refine guardR_i ?_ ?_
  · simp only [Bool.and_eq_true, and_true]
    exact ⟨req_byte hb68 8 rfl (by omega), req_byte hb68 2 rfl (by omega), req_byte hb68 1 rfl (by omega), req_byte hb68 0 rfl (by omega)⟩
  have u0 := u68 0 (by omega)
  have hle := f3.len
  refine birth_i u0 fun h84 e84 f84 => put_i e84 rfl fun h85 e85 f85 => ?_
  have f84' := f68'.tr f84 (by simpa using hle)
  have f85' := f84'.tr f85 (by simpa using hle)
  have hi3 : i3 < h2.length := (List.getElem?_eq_some_iff.1 e3).1
  have e3' : h85[i3]? = some (.cells [.int .i64 0, .int .i64 0, .int .i64 0, .int .i64 0, .int .i64 0] false) := f85.keep (f84.keep (f68.kept e3) (by simp; omega)) (by simp; omega)
  have hb85 := hb.kept f85'
  have hfail : ∀ (hx : AH) (c : List AV), hx[i3]? = some (.cells c false) → c.length = 5 → Fr [] h hx → ¬(getB l 3 = 165 ∧ getB l 9 = 0 ∧ pLen l ≤ l.length - 16 ∧ pHeadE l = 0 ∧ zeros (pPad l) = true) →
      ob (hx.puts i3 0 [.int .i64 0, .int .i64 0, .int .i64 0, .int .i64 0, .int .i64 0]) fun h' => ob (h'.cellsAt i3 0 5) fun cs => ints5 .i64 cs fun n1 n2 n3 n4 n5 => K n1 n2 n3 n4 n5 none 5 h' :=
    fun hx c ec hc fx hno => ret5 (K := fun n1 n2 n3 n4 n5 h' => K n1 n2 n3 n4 n5 none 5 h') ec hc fun h' f' => hk.fail (parseE_5 hs hbl' hsum hno) (by decide) (fx.tr f' (by simpa using l3))
  refine page_at_ok (a := 10) (w := 2) hb85 hl (by omega) (by omega) (by omega) ?_
  refine byte_i hb85 3 rfl (by omega) (br_ine (fun hne => ?_) fun h3 => ?_)
  · refine hfail _ _ e3' rfl f85' fun hc => hne ?_
    rw [hc.1]; rfl
  have h3 : getB l 3 = 165 := UInt8.toNat_inj.1 (by show _ = 165; omega)
  refine byte_i hb85 9 rfl (by omega) (br_ine (fun hne => ?_) fun h9 => ?_)
  · refine hfail _ _ e3' rfl f85' fun hc => hne ?_
    rw [hc.2.1]; rfl
  have h9 : getB l 9 = 0 := UInt8.toNat_inj.1 (by show _ = 0; omega)
  refine page_Room_ok hs ?_
  have hpl := pLen_lt l
  refine br_dec (fun hgt => ?_) fun hng => ?_
  · refine hfail _ _ e3' rfl f85' fun hc => ?_
    have := hc.2.2.1
    unfold pLen at this
    omega
  have hng : pLen l ≤ l.length - 16 := by unfold pLen; omega
  simp only [wrap_u8i64] at e85 ⊢
  refine ob_all e85 rfl ?_
  rw [ints5_eq]
  refine page_check_ok fun h75 f75 => ?_
  have f75' := f85'.trans f75
  have e3'' := f75.kept e3'
  refine br_ine (fun hne => ?_) fun hh => ?_
  · exact hfail _ _ e3'' rfl f75' fun hc => hne hc.2.2.2.1
  have ew2 : IntKind.wrap .i64 (12 + ((leNat ((l.drop 10).take 2) : Nat) : Int)) = ((12 + pLen l : Nat) : Int) := by
    show IntKind.wrap .i64 (12 + ((pLen l : Nat) : Int)) = _
    rw [wrap_i64 (by omega) (by omega)]; omega
  simp only [ew2, Int.toNat_natCast]
  refine need_i (by omega) (need_i (by omega) (guardR_i hb.cutOk ?_))
  have hb75 := hb.kept f75'
  have hpad := By.cut hb75 (i := 12 + pLen l) (j := l.length - 4) (by omega) (by omega)
  rw [By.len hpad]
  have hi84 : ∀ i ∈ [h2.length + 0], h.length ≤ i := by simpa using hle
  have e85' := f75.kept e85
  refine page_Parse_L0_ok hpad (by simp; omega) e3'' rfl (fun hz h' e' f' => ?_) (fun hz => ?_) _ 0 (Nat.zero_add _) (by simp)
  · refine ob_all e' rfl ?_
    simp only [ints5_eq, chkSl_slice, chkInt_int]
    exact hk.fail (parseE_5 hs hbl' hsum fun hc => by have := hc.2.2.2.2; unfold pPad at this; rw [hz] at this; cases this) (by decide) (f75'.tr f' (by simpa using l3))
  have hok : parseE l = 0 := parseE_0 hs hbl' hsum ⟨h3, h9, hng, hh, hz⟩
  refine hold_i fun h138 f138 u138 => ?_
  have e138 := f138.kept e85'
  refine ob_all e138 rfl ?_
  rw [ints5_eq]
  refine need_i (by omega) (need_i (by omega) (guardR_i hb.cutOk (birth_i (u138 0 (by omega)) fun h145 e145 f145 => ?_)))
  have f138' := f75'.trans f138
  have f145' := f138'.tr f145 (by have := f75'.len; simpa using this)
  have hld := By.cut (hb.kept f145') (i := 12) (j := 12 + pLen l) (by omega) (by omega)
  have e145' := f145.keep e138 (by have := (List.getElem?_eq_some_iff.1 e85').1; simp; omega)
  have e3145 := f145.keep (f138.kept e3'') (by have := (List.getElem?_eq_some_iff.1 e3'').1; simp; omega)
  have hplen : ((l.drop 12).take (12 + pLen l - 12)).length = pLen l := by simp; omega
  have o145 : Own h145 1 (some ⟨h75.length + 0, 0, 0, 0, none⟩) [] := Own.made e145 (by simp)
  have i145 := (List.getElem?_eq_some_iff.1 e145').1
  refine append_own (bytes := 1) o145 (fun K' => aNews_at hld (by decide) K') (by rw [By.len hld]; simp) (bys_scal _) (by rw [By.len hld, hplen]; show (0 + pLen l) * 1 ≤ _; omega) fun x' h149 o149 f149 i149 => ?_
  have epl : (l.drop 12).take (12 + pLen l - 12) = pLoad l := by unfold pLoad; congr 1; omega
  rw [List.nil_append, epl] at o149
  have e149 := f149.keep e145' (by have := (List.getElem?_eq_some_iff.1 e85').1; simp [ids]; omega)
  have e3149 := f149.keep e3145 (by have := (List.getElem?_eq_some_iff.1 e3'').1; simp [ids]; omega)
  have f149' := f145'.tr f149 (by have := f75'.len; simpa [ids] using this)
  refine guardR_i ?_ ?_
  · rw [Bool.and_true]; exact req_cells (cellsAt_all e149 rfl)
  refine put_i e3149 rfl fun h150 e150 f150 => ob_all e150 rfl ?_
  rw [ints5_eq]
  have hfin := hk x' h150 (fun _ => ?_) (fun hn => absurd hok hn) (f149'.tr f150 (by simpa using l3)) (fun i hi => ?_)
  · simpa [ifOk, if_pos hok, hok, pEp] using hfin
  · refine (o149.slAt.fr f150 ?_)
    intro i hi
    have : i ∈ ids x' := by
      cases x' with
      | none => simp [slId] at hi
      | some s => simp [slId] at hi; simp [ids, hi.2]
    have := i149 i this
    have h3 := (List.getElem?_eq_some_iff.1 e3'').1
    have h4 := (List.getElem?_eq_some_iff.1 e3145).1
    simp [ids] at this ⊢
    omega
  · have := i149 i (slId_ids i hi)
    have h5 := f75'.len
    have h6 := f145'.len
    simp [ids] at this
    omega

end Go.Abs
