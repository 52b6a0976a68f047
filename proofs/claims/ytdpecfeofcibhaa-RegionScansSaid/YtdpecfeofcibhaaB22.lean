/- What a block's pages have: the reference's scan. -/
import Derived.Test.YtdpecfeofcibhaaB20
namespace Go.Abs

/-- The answer of 'is'. -/
structure IsK (h : AH) (ls : List (List UInt8)) (n : Nat) (k p q e g : Int) (K : Option Sl → Bool → AH → Prop) : Prop where
  no : saysB (ls.take 16) e n k p q = false → ∀ x' h', Fr [] h h' → K x' false h'
  yes : saysB (ls.take 16) e n k p q = true → ∀ l x' h', (ls.take 16)[n]? = some l → parseE l = 0 → By h' x' (pLoad l) → Fr [] h h' → K x' true h'

theorem take16 {ls : List (List UInt8)} {n : Nat} (h1 : n < ls.length) (h2 : n < 16) : (ls.take 16)[n]? = some ls[n] := by
  rw [List.getElem?_take_of_lt h2, List.getElem?_eq_getElem h1]

theorem depotref25_is_ok {x : Option Sl} {px : List (Option Sl)} {ls : List (List UInt8)} (hll : ∀ l ∈ ls, l.length < 100000) {h : AH} (hm : Mat h x px ls) {n : Nat} {k p q e : Int} {K : Option Sl → Bool → AH → Prop} (hk : IsK h ls n k p q e n K) : depotref25_is x (n : Int) k p q e (n : Int) h K := by
  refine depotref25_is.go ?_
  unfold depotref25_isw
  refine new_i fun i9 h8 e8 f8 l8 => ?_
  have hm8 := hm.kept f8
  rw [hm8.len]
  have out : ¬(n < ls.length ∧ n < 16) → K none false h8 := fun hc => hk.no (by
    unfold saysB
    rw [Int.toNat_natCast, show (ls.take 16)[n]? = none from List.getElem?_eq_none (by simp; omega)]; simp) none h8 f8
  refine br_dec (fun h1 => out (by omega)) fun h1 => br_dec (fun h2 => out (by omega)) fun h2 => ?_
  have hlt : n < ls.length := by omega
  have hlen := hm8.len
  obtain ⟨s, rfl⟩ : ∃ s, x = some s := by
    cases x with
    | none => simp [lenO] at hlen; omega
    | some s => exact ⟨s, rfl⟩
  simp only [ob_some]
  refine mat_i hm8 n rfl hlt fun y hy hby => ?_
  have hS : saysB (ls.take 16) e n k p q = (parseE ls[n] == 0 && (((getB ls[n] 0).toNat : Int) == k && (((getB ls[n] 1).toNat : Int) == p && (((getB ls[n] 2).toNat : Int) == q && (((pEp ls[n] : Nat) : Int) == e && ((((getB ls[n] 8).toNat : Int) == (n : Int)) && true)))))) := by
    unfold saysB
    rw [Int.toNat_natCast, take16 hlt (by omega), decide_eq_true (by omega), Bool.true_and]
  refine depotref23_Parse_ok hby (by have := hll _ (List.getElem_mem hlt); omega) fun x' h14 p1 p2 f14 i14 => ?_
  refine new_i fun i23 h22 e22 f22 l22 => put_i e22 rfl fun h24 e24 f24 => hold0_i ?_
  have f22' := (f8.trans f14).trans f22
  have f24' : Fr [] h h24 := f22'.tr f24 (by have := (f8.trans f14).len; simp; omega)
  refine br_ieq (fun hz => ?_) fun hz => ?_
  · have ifo : ∀ m, ifOk ls[n] m = m := fun m => if_pos hz
    simp only [ifo] at e24
    refine ob_all e24 rfl ?_
    rw [ints5_eq]
    have e9 := f24.keep (f22.kept (f14.kept e8)) (by have := (List.getElem?_eq_some_iff.1 (f14.kept e8)).1; simp; omega)
    refine ob_all e9 rfl ?_
    rw [ints5_eq]
    have hS' : saysB (ls.take 16) e n k p q = (((getB ls[n] 0).toNat : Int) == k && (((getB ls[n] 1).toNat : Int) == p && (((getB ls[n] 2).toNat : Int) == q && (((pEp ls[n] : Nat) : Int) == e && ((((getB ls[n] 8).toNat : Int) == (n : Int)) && true))))) := by
      rw [hS, hz]; rfl
    rw [← hS']
    cases hb : saysB (ls.take 16) e n k p q
    · exact hk.no hb x' h24 f24'
    · exact hk.yes hb ls[n] x' h24 (take16 hlt (by omega)) hz (((p1 hz).kept f22).fr f24 fun i hi hm => by
        have := SlAt.lt (p1 hz) (by decide) i hi
        simp at hm; omega) f24'
  · refine hk.no ?_ x' h24 f24'
    rw [hS, show (parseE ls[n] == 0) = false from beq_eq_false_iff_ne.2 hz, Bool.false_and]

/-! sealed -/

theorem depotref25_sealed_L0_ok {z : Option Sl} {at_ : Int} {p : List UInt8} (hl : p.length < 100000) {h0 : AH} (hb0 : By h0 z p) {Kr K0 : AV → AV → Option Sl → Int → AH → Prop}
    (hk : (List.range (p.length / 3)).all (sealOk p) = true → ∀ x' h', Own h' 3 x' (tri ((List.range (p.length / 3)).map (sealAt p))) → Fr [] h0 h' → (∀ i ∈ ids x', h0.length ≤ i) → K0 .bot .bot x' (sealNext p (p.length / 3)) h')
    (hbad : (List.range (p.length / 3)).all (sealOk p) = false → ∀ x' m h', Fr [] h0 h' → Kr (.slice none) (.bool false) x' m h') :
    ∀ (n k : Nat) (x : Option Sl) (h : AH), 3 * (k + n) = p.length → (List.range k).all (sealOk p) = true → Fr [] h0 h → Own h 3 x (tri ((List.range k).map (sealAt p))) → (∀ i ∈ ids x, h0.length ≤ i) → depotref25_sealed_L0 z at_ x (sealNext p k) ((3 * k : Nat) : Int) h Kr K0
  | 0, k, x, h, hn, hv, f, o, hi => by
    refine depotref25_sealed_L0.go ?_
    unfold depotref25_sealed_L0w
    rw [By.len hb0, br_neg (by omega)]
    simp only [AV.beq_self, guardR_true]
    have e : p.length / 3 = k := by omega
    rw [e] at hk
    exact hk hv x h o f hi
  | n + 1, k, x, h, hn, hv, f, o, hi => by
    have hb := hb0.kept f
    have hz := By.len hb
    obtain ⟨s, rfl⟩ : ∃ s, z = some s := by
      cases z with
      | none => simp [lenO] at hz; omega
      | some s => exact ⟨s, rfl⟩
    refine depotref25_sealed_L0.go ?_
    unfold depotref25_sealed_L0w
    have e1 : IntKind.wrap .i64 (((3 * k : Nat) : Int) + 1) = ((3 * k + 1 : Nat) : Int) := by rw [wrap_i64 (by omega) (by omega)]; omega
    have e2 : IntKind.wrap .i64 (((3 * k : Nat) : Int) + 2) = ((3 * k + 2 : Nat) : Int) := by rw [wrap_i64 (by omega) (by omega)]; omega
    have e3 : IntKind.wrap .i64 (((3 * k : Nat) : Int) + 3) = ((3 * (k + 1) : Nat) : Int) := by rw [wrap_i64 (by omega) (by omega)]; omega
    rw [hz, br_pos (by omega), e1, e2, e3]
    refine hold_i fun h18 f18 u18 => ?_
    simp only [ob_some]
    have hb18 := hb.kept f18
    refine byte_i hb18 (3 * k) rfl (by omega) (byte_i hb18 (3 * k + 1) rfl (by omega) (byte_i hb18 (3 * k + 2) rfl (by omega) ?_))
    refine birth_i (u18 0 (by omega)) fun h25 e25 f25 => put_i e25 rfl fun h26 e26 f26 => ?_
    simp only [wrap_u8i64] at e26
    have hsa : sealAt p k = (((getB p (3 * k)).toNat : Int), ((getB p (3 * k + 1)).toNat : Int), ((getB p (3 * k + 2)).toNat : Int)) := by
      unfold sealAt
      simp [getB]
    have f25' := f18.tr f25 (by simp)
    have f26' := f25'.tr f26 (by simp)
    have bad : sealOk p k = false → ∀ x' m, guardR (AV.beq (.int .i64 at_) (.int .i64 at_)) (Kr (.slice none) (.bool false) x' m h26) := fun h1 x' m => by
      simp only [AV.beq_self, guardR_true]
      refine hbad ?_ x' m h26 (f.trans f26')
      rw [List.all_eq_false]; exact ⟨k, by rw [List.mem_range]; omega, by rw [h1]; decide⟩
    -- behind the checks
    have go : itemB (sealAt p k).1 = true → ob (AH.cell h26 (h.length + 0) 2) fun v41 => chkInt .i64 v41 fun n42 => br (decide (n42 < 1)) (guardR (AV.beq (.int .i64 at_) (.int .i64 at_)) <| Kr (.slice none) (.bool false) x (sealNext p k) h26) (
        ob (AH.cell h26 (h.length + 0) 1) fun v43 => chkInt .i64 v43 fun n44 => br (n44 != sealNext p k) (guardR (AV.beq (.int .i64 at_) (.int .i64 at_)) <| Kr (.slice none) (.bool false) x (sealNext p k) h26) (
          ob (AH.cell h26 (h.length + 0) 2) fun v57 => chkInt .i64 v57 fun n58 => ob (AH.cellsAt h26 (h.length + 0) 0 3) fun cs59 => ints3 .i64 cs59 fun n60 n61 n62 =>
          new h26 (.cells [.int .i64 n60, .int .i64 n61, .int .i64 n62] false) fun i64 h63 => aNews h63 3 (.slice (some ⟨i64, 0, 1, 1, none⟩)) fun x65 n66 => guardR (x65.all AV.scal && true && true) <|
          aAppend h63 3 24 x x65 n66 fun s67 h68 => depotref25_sealed_L0 (some s) at_ s67 (IntKind.wrap .i64 (sealNext p k + n58)) ((3 * (k + 1) : Nat) : Int) h68 Kr K0)) := by
      intro h1
      simp only [cell_of e26, List.getElem?_cons_zero, List.getElem?_cons_succ, ob_some, chkInt_int]
      refine br_dec (fun h2 => bad ?_ _ _) fun h2 => ?_
      · unfold sealOk
        rw [show ((sealAt p k).2.2 == 0) = true from beq_iff_eq.2 (by rw [hsa]; simp only; omega)]; simp
      try simp only [cell_of e26, List.getElem?_cons_zero, List.getElem?_cons_succ, ob_some, chkInt_int]
      refine br_ine (fun h3 => bad ?_ _ _) fun h3 => ?_
      · unfold sealOk
        rw [show ((sealAt p k).2.1 == sealNext p k) = false from beq_eq_false_iff_ne.2 (by rw [hsa]; exact h3)]; simp
      have hok : sealOk p k = true := by
        unfold sealOk
        rw [h1, show ((sealAt p k).2.2 == 0) = false from beq_eq_false_iff_ne.2 (by rw [hsa]; simp only; omega), show ((sealAt p k).2.1 == sealNext p k) = true from beq_iff_eq.2 (by rw [hsa]; exact h3)]; rfl
      try simp only [cell_of e26, List.getElem?_cons_zero, List.getElem?_cons_succ, ob_some, chkInt_int]
      refine ob_all e26 rfl ?_
      rw [ints3_eq]
      refine new_i fun i54 h53 e53 f53 l53 => ?_
      have f53' := f26'.trans f53
      have hs53 : SlAt h53 3 (some ⟨i54, 0, 1, 1, none⟩) (tri [sealAt p k]) := by rw [hsa]; exact SlAt.made e53 rfl
      have el : lenO x = k := by have := tri_len o.slAt; simpa using this
      refine append_own (bytes := 24) (o.kept f53') (fun K' => aNews_at hs53 (by decide) K') (by simp [lenO]) (tri_scal _) (by show (lenO x + 1) * 24 ≤ _; omega) fun x' h58 o58 f58 i58 => ?_
      have er : (List.range (k + 1)).map (sealAt p) = (List.range k).map (sealAt p) ++ [sealAt p k] := by rw [List.range_succ, List.map_append]; rfl
      rw [← tri_append, ← er] at o58
      have hbd := sealNext_bd p k
      have h2b := (getB p (3 * k + 2)).toNat_lt
      have en : IntKind.wrap .i64 (sealNext p k + ((getB p (3 * k + 2)).toNat : Int)) = sealNext p (k + 1) := by rw [wrap_i64 (by omega) (by omega), sealNext, hsa]
      rw [en]
      refine depotref25_sealed_L0_ok hl hb0 hk hbad n (k + 1) x' h58 (by omega) ?_ ((f.trans f53').tr f58 hi) o58 (fun i hm => ?_)
      · rw [List.range_succ, List.all_append, hv]; simpa using hok
      · rcases i58 i hm with h1 | h1
        · exact hi i h1
        · have := f.len; have := f53'.len; omega
    simp only [cell_of e26, List.getElem?_cons_zero, List.getElem?_cons_succ, ob_some, chkInt_int]
    refine br_ine (fun h1 => ?_) fun h1 => ?_
    · try simp only [cell_of e26, List.getElem?_cons_zero, List.getElem?_cons_succ, ob_some, chkInt_int]
      refine br_ine (fun h2 => bad ?_ _ _) fun h2 => ?_
      · unfold sealOk itemB
        rw [show ((sealAt p k).1 == 2 || (sealAt p k).1 == 3) = false from by rw [hsa]; simp only [Bool.or_eq_false_iff, beq_eq_false_iff_ne]; exact ⟨h1, h2⟩]; simp
      · have := go (by unfold itemB; rw [hsa]; simp only [Bool.or_eq_true, beq_iff_eq]; exact .inr h2)
        simpa only [cell_of e26, List.getElem?_cons_zero, List.getElem?_cons_succ, ob_some, chkInt_int] using this
    · have := go (by unfold itemB; rw [hsa]; simp only [Bool.or_eq_true, beq_iff_eq]; exact .inl h1)
      simpa only [cell_of e26, List.getElem?_cons_zero, List.getElem?_cons_succ, ob_some, chkInt_int] using this

theorem depotref25_sealed_ok {x : Option Sl} {p : List UInt8} (hl : p.length < 100000) {at_ : Int} {h : AH} (hb : By h x p) {K : Option Sl → Bool → AH → Prop}
    (hno : sealItems p at_ = none → ∀ x' h', Fr [] h h' → K x' false h') (hyes : ∀ l, sealItems p at_ = some l → ∀ x' h', Own h' 3 x' (tri l) → Fr [] h h' → (∀ q ∈ ids x', h.length ≤ q) → K x' true h') : depotref25_sealed x at_ h K := by
  refine depotref25_sealed.go ?_
  unfold depotref25_sealedw
  have e : Int.tmod ((lenO x : Nat) : Int) 3 = ((p.length % 3 : Nat) : Int) := by rw [By.len hb, Int.tmod_eq_emod_of_nonneg (by omega)]; omega
  rw [e]
  refine br_ine (fun h2 => hno (by unfold sealItems; rw [if_neg (by omega)]) _ h (.refl _ _)) fun h2 => ?_
  refine depotref25_sealed_L0_ok hl hb (fun hv x' h'' o f' i' => ?_) (fun hv x' m h'' f' => ?_) (p.length / 3) 0 none h (by omega) (by simp) (.refl _ _) rfl (by simp [ids])
  · by_cases hnx : sealNext p (p.length / 3) = at_
    · rw [beq_iff_eq.2 hnx]
      exact hyes _ (by unfold sealItems; rw [if_pos ⟨by omega, hv, hnx⟩]) x' h'' o f' i'
    · rw [beq_eq_false_iff_ne.2 hnx]
      exact hno (by unfold sealItems; rw [if_neg (fun hc => hnx hc.2.2)]) x' h'' f'
  · simp only [chkSl_slice, chkBool_bool]
    exact hno (by unfold sealItems; rw [if_neg (fun hc => by rw [hc.2.1] at hv; cases hv)]) _ h'' f'

end Go.Abs
