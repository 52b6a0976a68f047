/- What a block's pages have: the program's scan, and parts. -/
import Derived.Test.YtdpecfeofcibhaaB17
namespace Go.Abs

def itemB (k : Int) : Bool := k == 2 || k == 3
def sealAt (p : List UInt8) (k : Nat) : Tri := (((getB (p.drop (3 * k)) 0).toNat : Int), ((getB (p.drop (3 * k)) 1).toNat : Int), ((getB (p.drop (3 * k)) 2).toNat : Int))
def sealNext (p : List UInt8) : Nat → Int
  | 0 => 1
  | k + 1 => sealNext p k + (sealAt p k).2.2
def sealOk (p : List UInt8) (k : Nat) : Bool := itemB (sealAt p k).1 && (!((sealAt p k).2.2 == 0) && (sealAt p k).2.1 == sealNext p k)
/-- The items of a seal's payload, which stands at a page. -/
def sealItems (p : List UInt8) (at_ : Int) : Option (List Tri) :=
  if p.length % 3 = 0 ∧ (List.range (p.length / 3)).all (sealOk p) = true ∧ sealNext p (p.length / 3) = at_ then some ((List.range (p.length / 3)).map (sealAt p)) else none
theorem sealNext_bd (p : List UInt8) : ∀ k, 1 ≤ sealNext p k ∧ sealNext p k ≤ 1 + 255 * k
  | 0 => by simp [sealNext]
  | k + 1 => by
    have := sealNext_bd p k
    have h2 := (getB (p.drop (3 * k)) 2).toNat_lt
    simp only [sealNext, sealAt]; omega

theorem region_seal_L0_ok {z9 : Option (Nat × Nat)} {p : List UInt8} (hl : p.length < 100000) {h0 : AH} {Kr K0 : AV → AV → Option Sl → Int → AH → Prop}
    (hk : (List.range (p.length / 3)).all (sealOk p) = true → ∀ x' h', Own h' 3 x' (tri ((List.range (p.length / 3)).map (sealAt p))) → Fr [] h0 h' → (∀ i ∈ ids x', h0.length ≤ i) → K0 .bot .bot x' (sealNext p (p.length / 3)) h')
    (hbad : (List.range (p.length / 3)).all (sealOk p) = false → ∀ x' m h', Fr [] h0 h' → Kr (.slice none) (.bool false) x' m h') :
    ∀ (n k : Nat) (x z : Option Sl) (h : AH), 3 * (k + n) = p.length → (List.range k).all (sealOk p) = true → Fr [] h0 h → Own h 3 x (tri ((List.range k).map (sealAt p))) → (∀ i ∈ ids x, h0.length ≤ i) → By h0 z (p.drop (3 * k)) → region_scanner_seal_L0 z9 z x (sealNext p k) h Kr K0
  | 0, k, x, z, h, hn, hv, f, o, hi, hb0 => by
    have hb := hb0.kept f
    refine region_scanner_seal_L0.go ?_
    unfold region_scanner_seal_L0w
    rw [By.len hb, br_neg (by simp; omega)]
    simp only [AV.beq_self, guardR_true]
    have e : p.length / 3 = k := by omega
    rw [e] at hk
    exact hk hv x h o f hi
  | n + 1, k, x, z, h, hn, hv, f, o, hi, hb0 => by
    have hb := hb0.kept f
    have hlen : (p.drop (3 * k)).length = 3 * (n + 1) := by simp; omega
    have hz := By.len hb
    obtain ⟨s, rfl⟩ : ∃ s, z = some s := by
      cases z with
      | none => simp [lenO] at hz; omega
      | some s => exact ⟨s, rfl⟩
    refine region_scanner_seal_L0.go ?_
    unfold region_scanner_seal_L0w
    rw [hz, hlen, br_pos (by omega)]
    refine hold_i fun h18 f18 u18 => ?_
    simp only [ob_some]
    have hb18 := hb.kept f18
    refine byte_i hb18 0 rfl (by omega) (byte_i hb18 1 rfl (by omega) (byte_i hb18 2 rfl (by omega) ?_))
    refine birth_i (u18 0 (by omega)) fun h25 e25 f25 => put_i e25 rfl fun h26 e26 f26 => ?_
    simp only [wrap_u8i64] at e26
    have f25' := f18.tr f25 (by simp)
    have f26' := f25'.tr f26 (by simp)
    simp only [cell_of e26, List.getElem?_cons_zero, List.getElem?_cons_succ, ob_some, chkInt_int]
    have bad : sealOk p k = false → (List.range (p.length / 3)).all (sealOk p) = false := fun h1 => by
      rw [List.all_eq_false]; exact ⟨k, by rw [List.mem_range]; omega, by rw [h1]; decide⟩
    have hbad' : sealOk p k = false → ∀ x' m, Kr (.slice none) (.bool false) x' m h26 := fun h1 x' m => hbad (bad h1) x' m h26 (f.trans f26')
    refine region_item_ok ?_
    refine br_intro (fun h1 => ?_) fun h1 => ?_
    · simp only [AV.beq_self, guardR_true]
      refine hbad' ?_ _ _
      unfold sealOk itemB sealAt
      rw [show (((getB (p.drop (3 * k)) 0).toNat : Int) == 2 || ((getB (p.drop (3 * k)) 0).toNat : Int) == 3) = false by simpa only [Bool.not_eq_true'] using h1, Bool.false_and]
    have h1 : itemB (sealAt p k).1 = true := by
      have h1' := h1
      rw [Bool.not_eq_false'] at h1'
      exact h1'
    try simp only [cell_of e26, List.getElem?_cons_zero, List.getElem?_cons_succ, ob_some, chkInt_int]
    refine br_ieq (fun h2 => ?_) fun h2 => ?_
    · simp only [AV.beq_self, guardR_true]
      refine hbad' ?_ _ _
      unfold sealOk
      rw [show ((sealAt p k).2.2 == 0) = true from beq_iff_eq.2 h2]; simp
    try simp only [cell_of e26, List.getElem?_cons_zero, List.getElem?_cons_succ, ob_some, chkInt_int]
    refine br_ine (fun h3 => ?_) fun h3 => ?_
    · simp only [AV.beq_self, guardR_true]
      refine hbad' ?_ _ _
      unfold sealOk
      rw [show ((sealAt p k).2.1 == sealNext p k) = false from beq_eq_false_iff_ne.2 h3]; simp
    have hok : sealOk p k = true := by
      unfold sealOk
      rw [h1, show ((sealAt p k).2.2 == 0) = false from beq_eq_false_iff_ne.2 h2, show ((sealAt p k).2.1 == sealNext p k) = true from beq_iff_eq.2 h3]; rfl
    try simp only [cell_of e26, List.getElem?_cons_zero, List.getElem?_cons_succ, ob_some, chkInt_int]
    refine ob_all e26 rfl ?_
    rw [ints3_eq]
    refine new_i fun i54 h53 e53 f53 l53 => ?_
    have f53' := f26'.trans f53
    have hs53 : SlAt h53 3 (some ⟨i54, 0, 1, 1, none⟩) (tri [sealAt p k]) := SlAt.made e53 rfl
    have el : lenO x = k := by have := tri_len o.slAt; simpa using this
    refine append_own (bytes := 24) (o.kept f53') (fun K' => aNews_at hs53 (by decide) K') (by simp [lenO]) (tri_scal _) (by show (lenO x + 1) * 24 ≤ _; omega) fun x' h58 o58 f58 i58 => ?_
    have er : (List.range (k + 1)).map (sealAt p) = (List.range k).map (sealAt p) ++ [sealAt p k] := by rw [List.range_succ, List.map_append]; rfl
    rw [← tri_append, ← er] at o58
    refine need_i (by omega) (guardR_i hb.cutOk ?_)
    have hcut := By.cut hb0 (i := 3) (j := 3 * (n + 1)) (by omega) (by omega)
    have ecut : ((p.drop (3 * k)).drop 3).take (3 * (n + 1) - 3) = p.drop (3 * (k + 1)) := by
      rw [List.drop_drop, show 3 * k + 3 = 3 * (k + 1) by omega, List.take_of_length_le (by simp; omega)]
    rw [ecut] at hcut
    have hbd := sealNext_bd p k
    have h2b := (getB (p.drop (3 * k)) 2).toNat_lt
    rw [wrap_i64 (by omega) (by omega)]
    refine region_seal_L0_ok hl hk hbad n (k + 1) x' _ h58 (by omega) ?_ ((f.trans f53').tr f58 hi) o58 (fun i hm => ?_) hcut
    · rw [List.range_succ, List.all_append, hv]; simpa using hok
    · rcases i58 i hm with h1 | h1
      · exact hi i h1
      · have := f.len; have := f53'.len; omega

def scanSeal (ls : List (List UInt8)) (epoch : Int) (last : Nat) : Option (List Tri) :=
  if saysB ls epoch last 4 0 1 = true then sealItems (pLoad (ls.getD last [])) last else none

theorem getD_of {α : Type} {l : List α} {k : Nat} {a d : α} (h : l[k]? = some a) : l.getD k d = a := by rw [List.getD_eq_getElem?_getD, h]; rfl
theorem pLoad_len (l : List UInt8) : (pLoad l).length ≤ l.length := by unfold pLoad; simp; omega

theorem region_seal_ok {h : AH} {i : Nat} {ims : Option Sl} {xs : List (Option Sl)} {ls : List (List UInt8)} {epoch : Int} {last : Nat} (sc : Scn h i ims xs ls epoch last) (hll : ∀ l ∈ ls, l.length < 100000) {K : Option Sl → Bool → AH → Prop}
    (hno : scanSeal ls epoch last = none → ∀ x' h', Fr [] h h' → K x' false h')
    (hyes : ∀ l, scanSeal ls epoch last = some l → ∀ x' h', Own h' 3 x' (tri l) → Fr [] h h' → (∀ q ∈ ids x', h.length ≤ q) → K x' true h') : region_scanner_seal (some (i, 0)) h K := by
  refine region_scanner_seal.go ?_
  unfold region_scanner_sealw
  simp only [ob_some, Nat.zero_add, cell_of sc.main, List.getElem?_cons_zero, List.getElem?_cons_succ, chkInt_int]
  refine region_says_ok sc (fun h1 h' f => ?_) fun h1 n x l h' hn hx hl hz hb f => ?_
  · simp only [Bool.not_false, br_true]
    exact hno (by unfold scanSeal; rw [if_neg (by simp [h1])]) _ h' f
  simp only [Bool.not_true, br_false]
  obtain rfl : last = n := by omega
  have hll' := hll l (List.mem_of_getElem? hl)
  have hpl := pLoad_len l
  have hS : scanSeal ls epoch last = sealItems (pLoad l) last := by unfold scanSeal; rw [if_pos h1, getD_of hl]
  rw [hS] at hno hyes
  have e : Int.tmod ((lenO x : Nat) : Int) 3 = (((pLoad l).length % 3 : Nat) : Int) := by rw [By.len hb, Int.tmod_eq_emod_of_nonneg (by omega)]; omega
  rw [e]
  refine br_ine (fun h2 => hno (by unfold sealItems; rw [if_neg (by omega)]) _ h' f) fun h2 => ?_
  refine region_seal_L0_ok (p := pLoad l) (by omega) (fun hv x' h'' o f' i' => ?_) (fun hv x' m h'' f' => ?_) ((pLoad l).length / 3) 0 none x h' (by omega) (by simp) (.refl _ _) rfl (by simp [ids]) (by simpa using hb)
  · refine hold0_i ?_
    simp only [ob_some, Nat.zero_add, cell_of ((f.trans f').kept sc.main), List.getElem?_cons_zero, List.getElem?_cons_succ, chkInt_int]
    by_cases hnx : sealNext (pLoad l) ((pLoad l).length / 3) = (last : Int)
    · rw [beq_iff_eq.2 hnx]
      exact hyes _ (by unfold sealItems; rw [if_pos ⟨by omega, hv, hnx⟩]) x' h'' o (f.trans f') fun q hq => by have := i' q hq; have := f.len; omega
    · rw [beq_eq_false_iff_ne.2 hnx]
      exact hno (by unfold sealItems; rw [if_neg (fun hc => hnx hc.2.2)]) x' h'' (f.trans f')
  · simp only [chkSl_slice, chkBool_bool]
    exact hno (by unfold sealItems; rw [if_neg (fun hc => by rw [hc.2.1] at hv; cases hv)]) _ h'' (f.trans f')

/-! at, each -/

/-- The item that begins at a page. -/
def foundS (ls : List (List UInt8)) (epoch : Int) (p : Nat) : Option Tri :=
  match ls[p]? with
  | some l => if parseE l = 0 ∧ itemB (getB l 0).toNat = true ∧ (List.range (getB l 2).toNat).all (fun i => saysB ls epoch ((p : Int) + i) (getB l 0).toNat i (getB l 2).toNat) = true then some (((getB l 0).toNat : Int), (p : Int), ((getB l 2).toNat : Int)) else none
  | none => none

theorem region_at_L0_ok {i i4 i32 : Nat} {ims : Option Sl} {xs : List (Option Sl)} {ls : List (List UInt8)} {epoch last : Int} {p q k0 : Nat} (hp : p < 100000) (hq : q < 256) {h0 : AH} (sc : Scn h0 i ims xs ls epoch last) {c4 : List AV} (hc4 : c4.length = 3) (e4 : h0[i4]? = some (.cells c4 false)) {r32 : List AV} {c1 : AV}
    (e32 : h0[i32]? = some (.cells (.int .i64 (k0 : Int) :: c1 :: .int .i64 (q : Int) :: r32) false)) {Kr K0 : AV → AH → Prop}
    (hk : (List.range q).all (fun i => saysB ls epoch ((p : Int) + i) k0 i q) = true → ∀ h', Fr [] h0 h' → K0 .bot h')
    (hbad : (List.range q).all (fun i => saysB ls epoch ((p : Int) + i) k0 i q) = false → ∀ h', h'[i4]? = some (.cells [.int .i64 0, .int .i64 0, .int .i64 0] false) → Fr [i4] h0 h' → Kr (.bool false) h') :
    ∀ (n k : Nat) (h : AH), k + n = q → (List.range k).all (fun i => saysB ls epoch ((p : Int) + i) k0 i q) = true → Fr [] h0 h → region_scanner_at_L0 (some (i, 0)) (p : Int) (some (i4, 0)) (some (i32, 0)) (q : Int) (k : Int) h Kr K0
  | 0, k, h, hn, hv, f => by
    refine region_scanner_at_L0.go ?_
    unfold region_scanner_at_L0w
    rw [br_neg (by omega)]
    simp only [AV.beq_self, guardR_true]
    obtain rfl : k = q := by omega
    exact hk hv h f
  | n + 1, k, h, hn, hv, f => by
    refine region_scanner_at_L0.go ?_
    unfold region_scanner_at_L0w
    rw [br_pos (by omega)]
    simp only [ob_some, Nat.zero_add, cell_of (f.kept e32), List.getElem?_cons_zero, List.getElem?_cons_succ, chkInt_int]
    rw [wrap_i64 (by omega) (by omega)]
    refine region_says_ok (sc.kept f) (fun h1 h' f' => ?_) fun h1 n' x l h' _ _ _ _ _ f' => ?_
    · simp only [Bool.not_false, br_true]
      have ft := f.trans f'
      refine put_i (ft.kept e4) (by simp [hc4]) fun h'' e'' f'' => ?_
      simp only [AV.beq_self, guardR_true]
      refine hbad ?_ h'' e'' (ft.nil.trans f'')
      rw [List.all_eq_false]; exact ⟨k, by rw [List.mem_range]; omega, by rw [h1]; decide⟩
    · simp only [Bool.not_true, br_false]
      rw [wrap_i64 (by omega) (by omega)]
      refine region_at_L0_ok hp hq sc hc4 e4 e32 hk hbad n (k + 1) h' (by omega) ?_ (f.trans f')
      rw [List.range_succ, List.all_append, hv]; simpa using h1

theorem ret3 {h : AH} {i : Nat} {c : List AV} {a1 a2 a3 : Int} {K : Int → Int → Int → AH → Prop} (e0 : h[i]? = some (.cells c false)) (hl : c.length = 3) (hk : ∀ h', Fr [i] h h' → K a1 a2 a3 h') :
    ob (h.puts i 0 [.int .i64 a1, .int .i64 a2, .int .i64 a3]) fun h' => ob (h'.cellsAt i 0 3) fun cs => ints3 .i64 cs fun n1 n2 n3 => K n1 n2 n3 h' := by
  refine put_i e0 (by simp [hl]) fun h' e' f' => ob_all e' rfl ?_
  rw [ints3_eq]
  exact hk h' f'

theorem region_at_ok {h : AH} {i : Nat} {ims : Option Sl} {xs : List (Option Sl)} {ls : List (List UInt8)} {epoch last : Int} (sc : Scn h i ims xs ls epoch last) {p : Nat} (hp : p < ls.length) (hln : ls.length < 100000) {K : Int → Int → Int → Bool → AH → Prop}
    (hno : foundS ls epoch p = none → ∀ h', Fr [] h h' → K 0 0 0 false h') (hyes : ∀ a, foundS ls epoch p = some a → ∀ h', Fr [] h h' → K a.1 a.2.1 a.2.2 true h') : region_scanner_at (some (i, 0)) (p : Int) h K := by
  refine region_scanner_at.go ?_
  unfold region_scanner_atw
  refine new_i fun i4 h3 e3 f3 l3 => ?_
  have sc3 := sc.kept f3
  simp only [ob_some, cell_of sc3.main, List.getElem?_cons_zero, chkSl_slice]
  have hlen := sc.lenO
  obtain ⟨s, rfl⟩ : ∃ s, ims = some s := by
    cases ims with
    | none => simp [lenO] at hlen; omega
    | some s => exact ⟨s, rfl⟩
  have hsl : s.len = ls.length := hlen
  have hlx : p < xs.length := by rw [sc.len]; exact hp
  have c7 := cells7 sc3.im sc.len (List.getElem?_eq_getElem hlx) (List.getElem?_eq_getElem hp)
  simp only [ob_some]
  refine need_i (by omega) ?_
  rw [Int.toNat_natCast]
  refine ob_i (c7.2 7 (by decide) (by decide)) ?_
  have eim : (imC xs[p] ls[p]).take 7 = imC xs[p] ls[p] := rfl
  rw [eim]
  unfold imC
  simp only [asCons_cons, chkInt_int, chkSl_slice, chkBool_bool, asNil_nil]
  refine new_i fun i32 h31 e31 f31 l31 => put_i e31 rfl fun h33 e33 f33 => ?_
  have f31' := f3.trans f31
  have hl3 := f3.len
  have f33' : Fr [] h h33 := f31'.tr f33 (by simp; omega)
  have e4 := f33.keep (f31.kept e3) (by have := (List.getElem?_eq_some_iff.1 e3).1; simp; omega)
  simp only [cell_of e33, List.getElem?_cons_zero, List.getElem?_cons_succ, ob_some, chkBool_bool, chkInt_int]
  have hfl : foundS ls epoch p = if parseE ls[p] = 0 ∧ itemB (getB ls[p] 0).toNat = true ∧ (List.range (getB ls[p] 2).toNat).all (fun i => saysB ls epoch ((p : Int) + i) (getB ls[p] 0).toNat i (getB ls[p] 2).toNat) = true then some (((getB ls[p] 0).toNat : Int), (p : Int), ((getB ls[p] 2).toNat : Int)) else none := by
    unfold foundS; rw [List.getElem?_eq_getElem hp]
  refine br_intro (fun h1 => ?_) fun h1 => ?_
  · refine ret3 (K := fun a b c h' => K a b c false h') e4 rfl fun h' f' => hno ?_ h' (f33'.tr f' (by simpa using l3))
    have h1 : (parseE ls[p] == 0) = false := by simpa only [Bool.not_eq_true'] using h1
    rw [hfl, if_neg (fun hc => by rw [hc.1] at h1; cases h1)]
  have hz : parseE ls[p] = 0 := by
    have h1 : (parseE ls[p] == 0) = true := by simpa only [Bool.not_eq_false'] using h1
    exact beq_iff_eq.1 h1
  have ifo : ∀ m, ifOk ls[p] m = m := fun m => if_pos hz
  simp only [ifo] at e33 ⊢
  refine region_item_ok ?_
  refine br_intro (fun h2 => ?_) fun h2 => ?_
  · refine ret3 (K := fun a b c h' => K a b c false h') e4 rfl fun h' f' => hno ?_ h' (f33'.tr f' (by simpa using l3))
    have h2 : itemB (getB ls[p] 0).toNat = false := by
      have h1' := h2
      rw [Bool.not_eq_true'] at h1'
      exact h1'
    rw [hfl, if_neg (fun hc => by rw [hc.2.1] at h2; cases h2)]
  have h2 : itemB (getB ls[p] 0).toNat = true := by
    have h1' := h2
    rw [Bool.not_eq_false'] at h1'
    exact h1'
  simp only [cell_of e33, List.getElem?_cons_zero, List.getElem?_cons_succ, ob_some, chkInt_int]
  have hb2 := (getB ls[p] 2).toNat_lt
  refine region_at_L0_ok (by omega) (by omega) (sc.kept f33') (c4 := [.int .i64 0, .int .i64 0, .int .i64 0]) rfl e4 e33 (fun hv h' f' => ?_) (fun hv h' e' f' => ?_) (getB ls[p] 2).toNat 0 h33 (by omega) (by simp) (.refl _ _)
  · simp only [cell_of (f'.kept e33), List.getElem?_cons_zero, List.getElem?_cons_succ, ob_some, chkInt_int]
    exact ret3 (K := fun a b c h' => K a b c true h') (f'.kept e4) rfl fun h'' f'' => hyes _ (by rw [hfl, if_pos ⟨hz, h2, hv⟩]) h'' ((f33'.trans f').tr f'' (by simpa using l3))
  · refine ob_all e' rfl ?_
    simp only [ints3_eq, chkBool_bool]
    exact hno (by rw [hfl, if_neg (fun hc => by rw [hc.2.2] at hv; cases hv)]) h' (f33'.tr f' (by simpa using l3))

/-- The items from a page on. -/
def eachS (ls : List (List UInt8)) (epoch : Int) (last : Nat) : Nat → Nat → List Tri
  | 0, _ => []
  | n + 1, p => if p ≤ last then (match foundS ls epoch p with
    | some a => a :: eachS ls epoch last n (p + a.2.2.toNat)
    | none => eachS ls epoch last n (p + 1)) else []

theorem headE_q {k p q e g : Int} (h : headE k p q e g = 0) : 1 ≤ q ∧ q ≤ 16 := by
  unfold headE at h
  split at h
  · cases h
  · split at h
    · cases h
    · omega
theorem parse_q {l : List UInt8} (h : parseE l = 0) : 1 ≤ (getB l 2).toNat ∧ (getB l 2).toNat ≤ 16 := by
  unfold parseE at h
  split at h
  · cases h
  split at h
  · cases h
  split at h
  · cases h
  split at h
  · rename_i hc
    have := headE_q hc.2.2.2.1
    omega
  · cases h
theorem foundS_q {ls : List (List UInt8)} {epoch : Int} {p : Nat} {a : Tri} (h : foundS ls epoch p = some a) : ∃ q : Nat, a.2.2 = q ∧ 1 ≤ q ∧ q ≤ 16 := by
  unfold foundS at h
  split at h
  · split at h
    · rename_i hc
      cases h
      exact ⟨_, rfl, parse_q hc.1⟩
    · cases h
  · cases h

theorem region_each_L0_ok {i : Nat} {ims : Option Sl} {xs : List (Option Sl)} {ls : List (List UInt8)} {epoch : Int} {last : Nat} (hlast : last < ls.length) (hln : ls.length ≤ 1000) {h0 : AH} (sc : Scn h0 i ims xs ls epoch last) {R : List Tri} {K0 : Option Sl → AH → Prop}
    (hk : ∀ x' h', Own h' 3 x' (tri R) → Fr [] h0 h' → (∀ q ∈ ids x', h0.length ≤ q) → K0 x' h') :
    ∀ (n p : Nat) (acc : List Tri) (x : Option Sl) (h : AH), last < p + n → p ≤ 2000 → acc.length ≤ p → Fr [] h0 h → Own h 3 x (tri acc) → (∀ q ∈ ids x, h0.length ≤ q) → acc ++ eachS ls epoch last n p = R → region_scanner_each_L0 (some (i, 0)) 61 [.ptr (some (i, 0))] [] x (p : Int) h K0
  | 0, p, acc, x, h, hn, hp, ha, f, o, hi, hR => by
    refine region_scanner_each_L0.go ?_
    unfold region_scanner_each_L0w
    simp only [ob_some, Nat.zero_add, cell_of (f.kept sc.main), List.getElem?_cons_zero, List.getElem?_cons_succ, chkInt_int]
    rw [br_neg (by omega)]
    simp only [eachS, List.append_nil] at hR
    subst hR
    exact hk x h o f hi
  | n + 1, p, acc, x, h, hn, hp, ha, f, o, hi, hR => by
    refine region_scanner_each_L0.go ?_
    unfold region_scanner_each_L0w
    simp only [ob_some, Nat.zero_add, cell_of (f.kept sc.main), List.getElem?_cons_zero, List.getElem?_cons_succ, chkInt_int]
    unfold eachS at hR
    by_cases hpl : p ≤ last
    case neg =>
      rw [br_neg (by omega)]
      rw [if_neg hpl, List.append_nil] at hR
      subst hR
      exact hk x h o f hi
    rw [if_pos hpl] at hR
    rw [br_pos (by omega)]
    have hxlt := o.lt
    have hl0 := f.len
    refine region_at_ok (sc.kept f) (p := p) (by omega) (by omega) (fun hF h18 f18 => ?_) fun a hF h18 f18 => ?_
    · refine new_i fun i30 h29 e29 f29 l29 => put_i e29 rfl fun h31 e31 f31 => ?_
      have f31' : Fr [] h h31 := (f18.trans f29).tr f31 (by have := f18.len; simp; omega)
      simp only [Bool.not_false, br_true]
      rw [wrap_i64 (by omega) (by omega)]
      rw [hF] at hR
      exact region_each_L0_ok hlast hln sc hk n (p + 1) acc x h31 (by omega) (by omega) (by omega) (f.trans f31') (o.kept f31') hi hR
    · refine new_i fun i30 h29 e29 f29 l29 => put_i e29 rfl fun h31 e31 f31 => ?_
      have f31' : Fr [] h h31 := (f18.trans f29).tr f31 (by have := f18.len; simp; omega)
      simp only [Bool.not_true, br_false]
      refine ob_all e31 rfl ?_
      rw [ints3_eq]
      refine new_i fun i37 h36 e36 f36 l36 => ?_
      have f36' := f31'.trans f36
      have hs36 : SlAt h36 3 (some ⟨i37, 0, 1, 1, none⟩) (tri [a]) := SlAt.made e36 rfl
      have el : lenO x = acc.length := tri_len o.slAt
      refine append_own (bytes := 24) (o.kept f36') (fun K' => aNews_at hs36 (by decide) K') (by simp [lenO]) (tri_scal _) (by show (lenO x + 1) * 24 ≤ _; omega) fun x' h41 o41 f41 i41 => ?_
      rw [← tri_append] at o41
      have e41 := f41.keep (f36.kept e31) (fun hm => by have := hxlt _ hm; have := f18.len; omega)
      simp only [cell_of e41, List.getElem?_cons_zero, List.getElem?_cons_succ, ob_some, chkInt_int]
      obtain ⟨q, hq, hq1, hq2⟩ := foundS_q hF
      rw [hF] at hR
      simp only [hq, Int.toNat_natCast] at hR ⊢
      rw [wrap_i64 (x := (q : Int) - 1) (by omega) (by omega), wrap_i64 (x := (p : Int) + _) (by omega) (by omega), wrap_i64 (by omega) (by omega), show (p : Int) + ((q : Int) - 1) + 1 = ((p + q : Nat) : Int) by omega]
      refine region_each_L0_ok hlast hln sc hk n (p + q) (acc ++ [a]) x' h41 (by omega) (by omega) (by simp; omega) ((f.trans f36').tr f41 hi) o41 (fun j hm => ?_) (by rw [List.append_assoc]; exact hR)
      rcases i41 j hm with h1 | h1
      · exact hi j h1
      · have := f36'.len; omega

theorem region_each_ok {h : AH} {i : Nat} {ims : Option Sl} {xs : List (Option Sl)} {ls : List (List UInt8)} {epoch : Int} {last : Nat} (sc : Scn h i ims xs ls epoch last) (hlast : last < ls.length) (hln : ls.length ≤ 1000) {K : Option Sl → AH → Prop}
    (hk : ∀ x' h', Own h' 3 x' (tri (eachS ls epoch last last 1)) → Fr [] h h' → (∀ q ∈ ids x', h.length ≤ q) → K x' h') : region_scanner_each (some (i, 0)) 61 [.ptr (some (i, 0))] [] h K := by
  refine region_scanner_each.go ?_
  unfold region_scanner_eachw
  exact region_each_L0_ok hlast hln sc hk last 1 [] none h (by omega) (by omega) (by simp) (.refl _ _) rfl (by simp [ids]) rfl

end Go.Abs
