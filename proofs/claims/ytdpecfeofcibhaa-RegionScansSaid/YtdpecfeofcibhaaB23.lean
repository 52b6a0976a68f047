/- What a block's pages have: the reference's found, Scan, Parts. -/
import Derived.Test.YtdpecfeofcibhaaB22
namespace Go.Abs

theorem depotref25_found_L0_ok {i5 i19 : Nat} {z : Option Sl} {px : List (Option Sl)} {ls : List (List UInt8)} (hll : ∀ l ∈ ls, l.length < 100000) {epoch : Int} {p q : Nat} {k0 : Int} (hp : p < 100000) (hq : q < 256) {h0 : AH} (hm : Mat h0 z px ls) {c4 : List AV} (hc4 : c4.length = 3) (e5 : h0[i5]? = some (.cells c4 false)) {r32 : List AV} {c1 : AV}
    (e19 : h0[i19]? = some (.cells (.int .i64 k0 :: c1 :: .int .i64 (q : Int) :: r32) false)) {Kr K0 : AV → AH → Prop}
    (hk : (List.range q).all (fun i => saysB (ls.take 16) epoch ((p : Int) + i) k0 i q) = true → ∀ h', Fr [] h0 h' → K0 .bot h')
    (hbad : (List.range q).all (fun i => saysB (ls.take 16) epoch ((p : Int) + i) k0 i q) = false → ∀ h', h'[i5]? = some (.cells [.int .i64 0, .int .i64 0, .int .i64 0] false) → Fr [i5] h0 h' → Kr (.bool false) h') :
    ∀ (n k : Nat) (h : AH), k + n = q → (List.range k).all (fun i => saysB (ls.take 16) epoch ((p : Int) + i) k0 i q) = true → Fr [] h0 h → depotref25_found_L0 z (p : Int) epoch (some (i5, 0)) (some (i19, 0)) (k : Int) h Kr K0
  | 0, k, h, hn, hv, f => by
    refine depotref25_found_L0.go ?_
    unfold depotref25_found_L0w
    simp only [ob_some, Nat.zero_add, cell_of (f.kept e19), List.getElem?_cons_zero, List.getElem?_cons_succ, chkInt_int]
    rw [br_neg (by omega)]
    simp only [AV.beq_self, guardR_true]
    obtain rfl : k = q := by omega
    exact hk hv h f
  | n + 1, k, h, hn, hv, f => by
    refine depotref25_found_L0.go ?_
    unfold depotref25_found_L0w
    simp only [ob_some, Nat.zero_add, cell_of (f.kept e19), List.getElem?_cons_zero, List.getElem?_cons_succ, chkInt_int]
    rw [br_pos (by omega)]
    try simp only [ob_some, Nat.zero_add, cell_of (f.kept e19), List.getElem?_cons_zero, List.getElem?_cons_succ, chkInt_int]
    rw [wrap_i64 (x := (p : Int) + k) (by omega) (by omega), show (p : Int) + (k : Int) = ((p + k : Nat) : Int) by omega]
    refine depotref25_is_ok hll (hm.kept f) ⟨fun h1 x' h' f' => ?_, fun h1 l x' h' _ _ _ f' => ?_⟩
    · rw [show ((p + k : Nat) : Int) = (p : Int) + (k : Int) by omega] at h1
      simp only [Bool.not_false, br_true]
      have ft := f.trans f'
      refine put_i (ft.kept e5) (by simp [hc4]) fun h'' e'' f'' => ?_
      simp only [AV.beq_self, guardR_true]
      refine hbad ?_ h'' e'' (ft.nil.trans f'')
      rw [List.all_eq_false]; exact ⟨k, by rw [List.mem_range]; omega, by rw [h1]; decide⟩
    · rw [show ((p + k : Nat) : Int) = (p : Int) + (k : Int) by omega] at h1
      simp only [Bool.not_true, br_false]
      rw [wrap_i64 (by omega) (by omega)]
      refine depotref25_found_L0_ok hll hp hq hm hc4 e5 e19 hk hbad n (k + 1) h' (by omega) ?_ (f.trans f')
      rw [List.range_succ, List.all_append, hv]; simpa using h1

theorem depotref25_found_ok {x : Option Sl} {px : List (Option Sl)} {ls : List (List UInt8)} (hll : ∀ l ∈ ls, l.length < 100000) {h : AH} (hm : Mat h x px ls) {p : Nat} (hp : p < (ls.take 16).length) {epoch : Int} {K : Int → Int → Int → Bool → AH → Prop}
    (hno : foundS (ls.take 16) epoch p = none → ∀ h', Fr [] h h' → K 0 0 0 false h') (hyes : ∀ a, foundS (ls.take 16) epoch p = some a → ∀ h', Fr [] h h' → K a.1 a.2.1 a.2.2 true h') : depotref25_found x (p : Int) epoch h K := by
  refine depotref25_found.go ?_
  unfold depotref25_foundw
  have hp16 : p < ls.length ∧ p < 16 := by rw [List.length_take] at hp; omega
  refine new_i fun i5 h4 e5 f4 l5 => ?_
  have hm4 := hm.kept f4
  have hlen := hm4.len
  obtain ⟨s, rfl⟩ : ∃ s, x = some s := by
    cases x with
    | none => simp [lenO] at hlen; omega
    | some s => exact ⟨s, rfl⟩
  simp only [ob_some]
  refine mat_i hm4 p rfl hp16.1 fun y hy hby => ?_
  refine depotref23_Parse_ok hby (by have := hll _ (List.getElem_mem hp16.1); omega) fun x' h10 p1 p2 f10 i10 => ?_
  refine new_i fun i19 h18 e19 f18 l19 => put_i e19 rfl fun h20 e20 f20 => ?_
  have f18' := f10.trans f18
  have f20' : Fr [] h4 h20 := f18'.tr f20 (by have := f10.len; simp; omega)
  have ft := f4.trans f20'
  have e5' := f20'.kept e5
  have hfl : foundS (ls.take 16) epoch p = if parseE ls[p] = 0 ∧ itemB (getB ls[p] 0).toNat = true ∧ (List.range (getB ls[p] 2).toNat).all (fun i => saysB (ls.take 16) epoch ((p : Int) + i) (getB ls[p] 0).toNat i (getB ls[p] 2).toNat) = true then some (((getB ls[p] 0).toNat : Int), (p : Int), ((getB ls[p] 2).toNat : Int)) else none := by
    unfold foundS; rw [take16 hp16.1 hp16.2]
  have no : foundS (ls.take 16) epoch p = none → ob (AH.puts h20 i5 0 [.int .i64 0, .int .i64 0, .int .i64 0]) fun h25 => ob (AH.cellsAt h25 i5 0 3) fun cs26 => ints3 .i64 cs26 fun n27 n28 n29 => K n27 n28 n29 false h25 := fun hN =>
    ret3 (K := fun a b c h' => K a b c false h') e5' rfl fun h' f' => hno hN h' (ft.tr f' (by simpa using l5))
  refine br_ine (fun h1 => no (by rw [hfl, if_neg (fun hc => h1 hc.1)])) fun hz => ?_
  have ifo : ∀ m, ifOk ls[p] m = m := fun m => if_pos hz
  simp only [ifo] at e20
  have hb2 := (getB ls[p] 2).toNat_lt
  have go : itemB (getB ls[p] 0).toNat = true → depotref25_found_L0 (some s) p epoch (some (i5, 0)) (some (i19, 0)) 0 h20
      (fun u63 h62 => ob (AH.cellsAt h62 i5 0 3) fun cs64 => ints3 .i64 cs64 fun n65 n66 n67 => chkBool u63 fun b68 => K n65 n66 n67 b68 h62)
      (fun u70 h69 => ob (AH.cell h69 i19 0) fun v71 => chkInt .i64 v71 fun n72 => ob (AH.cell h69 i19 2) fun v73 => chkInt .i64 v73 fun n74 => ob (AH.puts h69 i5 0 [.int .i64 n72, .int .i64 p, .int .i64 n74]) fun h75 => ob (AH.cellsAt h75 i5 0 3) fun cs76 => ints3 .i64 cs76 fun n77 n78 n79 => K n77 n78 n79 true h75) := by
    intro h2
    refine depotref25_found_L0_ok hll (by omega) (by omega) (hm.kept ft) (c4 := [.int .i64 0, .int .i64 0, .int .i64 0]) rfl e5' e20 (fun hv h' f' => ?_) (fun hv h' e' f' => ?_) (getB ls[p] 2).toNat 0 h20 (by omega) (by simp) (.refl _ _)
    · simp only [cell_of (f'.kept e20), List.getElem?_cons_zero, List.getElem?_cons_succ, ob_some, chkInt_int]
      exact ret3 (K := fun a b c h' => K a b c true h') (f'.kept e5') rfl fun h'' f'' => hyes _ (by rw [hfl, if_pos ⟨hz, h2, hv⟩]) h'' ((ft.trans f').tr f'' (by simpa using l5))
    · refine ob_all e' rfl ?_
      simp only [ints3_eq, chkBool_bool]
      exact hno (by rw [hfl, if_neg (fun hc => by rw [hc.2.2] at hv; cases hv)]) h' (ft.tr f' (by simpa using l5))
  simp only [cell_of e20, List.getElem?_cons_zero, List.getElem?_cons_succ, ob_some, chkInt_int]
  refine br_ine (fun h1 => ?_) fun h1 => go (by unfold itemB; rw [h1]; rfl)
  try simp only [cell_of e20, List.getElem?_cons_zero, List.getElem?_cons_succ, ob_some, chkInt_int]
  refine br_ine (fun h2 => no ?_) fun h2 => go (by unfold itemB; rw [h2]; rfl)
  rw [hfl, if_neg (fun hc => ?_)]
  have := hc.2.1
  unfold itemB at this
  simp only [Bool.or_eq_true, beq_iff_eq] at this
  omega

theorem depotref25_Scan_L0_ok {z : Option Sl} {px : List (Option Sl)} {ls : List (List UInt8)} (hll : ∀ l ∈ ls, l.length < 100000) {h : AH} (hm : Mat h z px ls) {a b c : Option (Nat × Nat)} {K0 : Int → AH → Prop} :
    ∀ (k : Nat), k < ls.length → k < 16 → K0 (lastTo (ls.take 16) (k + 1)) h → depotref25_Scan_L0 z a b c (k : Int) h K0
  | 0, h1, h2, hk => by
    refine depotref25_Scan_L0.go ?_
    unfold depotref25_Scan_L0w
    rw [br_neg (by decide)]
    simp only [AV.beq_self, guardR_true]
    have : lastTo (ls.take 16) (0 + 1) = 0 := by unfold lastTo; split <;> rfl
    rw [this] at hk
    exact hk
  | k + 1, h1, h2, hk => by
    have hlen := hm.len
    obtain ⟨s, rfl⟩ : ∃ s, z = some s := by
      cases z with
      | none => simp [lenO] at hlen; omega
      | some s => exact ⟨s, rfl⟩
    refine depotref25_Scan_L0.go ?_
    unfold depotref25_Scan_L0w
    rw [br_pos (by omega)]
    simp only [ob_some]
    refine mat_i hm (k + 1) rfl h1 fun y hy hby => ?_
    refine depotref23_Blank_ok hby (by have := hll _ (List.getElem_mem h1); omega) ?_
    unfold lastTo at hk
    rw [getD_of (take16 h1 h2)] at hk
    refine br_intro (fun hb => ?_) fun hb => ?_
    · rw [if_pos hb] at hk
      rw [wrap_i64 (by omega) (by omega), show ((k + 1 : Nat) : Int) - 1 = (k : Int) by omega]
      exact depotref25_Scan_L0_ok hll hm k (by omega) (by omega) hk
    · rw [if_neg (by rw [hb]; decide)] at hk
      simp only [AV.beq_self, guardR_true]
      exact hk

theorem depotref25_Scan_L1_ok {i3 i28 i61 : Nat} {z : Option Sl} {px : List (Option Sl)} {ls : List (List UInt8)} (hll : ∀ l ∈ ls, l.length < 100000) {epoch : Int} {last : Nat} (hlast : last < (ls.take 16).length) {h0 : AH} (hm : Mat h0 z px ls) (h61 : h0.length ≤ i61) (h28 : i28 ≠ i61) {c28 : List AV} (hc28 : c28[3]? = some (.int .i64 epoch)) {R : List Tri} {K2 : AH → Prop}
    (hk : ∀ x' h', h'[i61]? = some (.cells [.int .i64 epoch, .bool false, .slice x'] false) → Own h' 3 x' (tri R) → Fr [] h0 h' → (∀ q ∈ ids x', h0.length ≤ q ∧ q ≠ i61 ∧ q ≠ i28 ∧ q ≠ i3) → h'[i3]? = some (.cells [.int .i64 0, .bool false, .slice none] false) → K2 h') (h3 : i3 ≠ i61) :
    ∀ (n p : Nat) (acc : List Tri) (x : Option Sl) (h : AH), last < p + n → p ≤ 2000 → acc.length ≤ p → Fr [] h0 h → h[i61]? = some (.cells [.int .i64 epoch, .bool false, .slice x] false) → h[i28]? = some (.cells c28 false) → h[i3]? = some (.cells [.int .i64 0, .bool false, .slice none] false) → Own h 3 x (tri acc) → (∀ q ∈ ids x, h0.length ≤ q ∧ q ≠ i61 ∧ q ≠ i28 ∧ q ≠ i3) → acc ++ eachS (ls.take 16) epoch last n p = R →
      depotref25_Scan_L1 z (some (i3, 0)) (some (i28, 0)) (some (i61, 0)) (last : Int) (p : Int) h K2
  | 0, p, acc, x, h, hn, hp, ha, f, e61, e28, e3, o, hi, hR => by
    refine depotref25_Scan_L1.go ?_
    unfold depotref25_Scan_L1w
    rw [br_neg (by omega)]
    simp only [AV.beq_self, guardR_true]
    simp only [eachS, List.append_nil] at hR
    subst hR
    exact hk x h e61 o f hi e3
  | n + 1, p, acc, x, h, hn, hp, ha, f, e61, e28, e3, o, hi, hR => by
    refine depotref25_Scan_L1.go ?_
    unfold depotref25_Scan_L1w
    unfold eachS at hR
    by_cases hpl : p ≤ last
    case neg =>
      rw [br_neg (by omega)]
      simp only [AV.beq_self, guardR_true]
      rw [if_neg hpl, List.append_nil] at hR
      subst hR
      exact hk x h e61 o f hi e3
    rw [if_pos hpl] at hR
    rw [br_pos (by omega)]
    have h16 : last < 16 := by rw [List.length_take] at hlast; omega
    simp only [ob_some, Nat.zero_add, cell_of e28, hc28, chkInt_int]
    have hxlt := o.lt
    have hl0 := f.len
    have b61 := (List.getElem?_eq_some_iff.1 e61).1
    have b28 := (List.getElem?_eq_some_iff.1 e28).1
    have b3 := (List.getElem?_eq_some_iff.1 e3).1
    refine depotref25_found_ok hll (hm.kept f) (p := p) (by omega) (fun hF h18 f18 => ?_) fun a hF h18 f18 => ?_
    · refine new_i fun i30 h29 e29 f29 l29 => put_i e29 rfl fun h31 e31 f31 => ?_
      have f31' : Fr [] h h31 := (f18.trans f29).tr f31 (by have := f18.len; simp; omega)
      simp only [br_false]
      rw [wrap_i64 (by omega) (by omega)]
      rw [hF] at hR
      exact depotref25_Scan_L1_ok hll hlast hm h61 h28 hc28 hk h3 n (p + 1) acc x h31 (by omega) (by omega) (by omega) (f.trans f31') (f31'.kept e61) (f31'.kept e28) (f31'.kept e3) (o.kept f31') hi hR
    · refine new_i fun i30 h29 e29 f29 l29 => put_i e29 rfl fun h31 e31 f31 => ?_
      have f31' : Fr [] h h31 := (f18.trans f29).tr f31 (by have := f18.len; simp; omega)
      simp only [br_true, cell_of (f31'.kept e61), List.getElem?_cons_zero, List.getElem?_cons_succ, ob_some, chkSl_slice, Nat.zero_add]
      refine ob_all e31 rfl ?_
      rw [ints3_eq]
      refine new_i fun i37 h36 e36 f36 l36 => ?_
      have f36' := f31'.trans f36
      have hs36 : SlAt h36 3 (some ⟨i37, 0, 1, 1, none⟩) (tri [a]) := SlAt.made e36 rfl
      have el : lenO x = acc.length := tri_len o.slAt
      refine append_own (bytes := 24) (o.kept f36') (fun K' => aNews_at hs36 (by decide) K') (by simp [lenO]) (tri_scal _) (by show (lenO x + 1) * 24 ≤ _; omega) fun x' h41 o41 f41 i41 => ?_
      rw [← tri_append] at o41
      have e61' := f41.keep (f36'.kept e61) fun hm' => (hi _ hm').2.1 rfl
      have e28' := f41.keep (f36'.kept e28) fun hm' => (hi _ hm').2.2.1 rfl
      have e3' := f41.keep (f36'.kept e3) fun hm' => (hi _ hm').2.2.2 rfl
      have e41 := f41.keep (f36.kept e31) (fun hm => by have := hxlt _ hm; have := f18.len; omega)
      have lf18 := f18.len
      refine put1_i e61' (by simp) fun h43 e43 f43 => ?_
      simp only [List.set_cons_zero, List.set_cons_succ] at e43
      have n30 : i30 ∉ [i61] := by simp; omega
      simp only [cell_of (f43.keep e41 n30), List.getElem?_cons_zero, List.getElem?_cons_succ, ob_some, chkInt_int]
      obtain ⟨q, hq, hq1, hq2⟩ := foundS_q hF
      rw [hF] at hR
      simp only [hq, Int.toNat_natCast] at hR ⊢
      rw [wrap_i64 (x := (p : Int) + _) (by omega) (by omega), show (p : Int) + (q : Int) = ((p + q : Nat) : Int) by omega]
      have hids : ∀ j ∈ ids x', h0.length ≤ j ∧ j ≠ i61 ∧ j ≠ i28 ∧ j ≠ i3 := fun j hm' => by
        rcases i41 j hm' with h1 | h1
        · exact hi j h1
        · have := f36'.len; omega
      refine depotref25_Scan_L1_ok hll hlast hm h61 h28 hc28 hk h3 n (p + q) (acc ++ [a]) x' h43 (by omega) (by omega) (by simp; omega) (((f.trans f36').tr f41 fun j hm' => (hi j hm').1).tr f43 (by simpa using h61)) e43 (f43.keep e28' (by simpa using h28)) (f43.keep e3' (by simpa using h3)) (o41.fr f43 fun j hm' h1 => (hids j hm').2.1 (by simpa using h1)) hids (by rw [List.append_assoc]; exact hR)

theorem depotref25_Scan_ok {x : Option Sl} {px : List (Option Sl)} {ls : List (List UInt8)} (hll : ∀ l ∈ ls, l.length < 100000) {h : AH} (hm : Mat h x px ls) (hb : ls.length < 1000000) {K : Int → Bool → Option Sl → Bool → AH → Prop} (hk : ScanK h ls K) : depotref25_Scan x h K := by
  refine depotref25_Scan.go ?_
  unfold depotref25_Scanw
  refine new_i fun i3 h2 e3 f2 l3 => ?_
  have b3 := (List.getElem?_eq_some_iff.1 e3).1
  have hm2 := hm.kept f2
  rw [hm2.len]
  have fail : ∀ (hx : AH) (c : List AV), hx[i3]? = some (.cells c false) → c.length = 3 → Fr [] h hx → scanS ls = none →
      ob (hx.puts i3 0 [.int .i64 0, .bool false, .slice none]) fun h' => ob (h'.cellsAt i3 0 3) fun cs => asCons cs fun v1 l1 => chkInt .i64 v1 fun n => asCons l1 fun v2 l2 => chkBool v2 fun m => asCons l2 fun v3 l3 => chkSl v3 fun y => asNil l3 <| K n m y false h' :=
    fun hx c ec hc fx hs => retR (K := fun n m y h' => K n m y false h') ec hc fun h' f' => hk.no hs h' (fx.tr f' (by simpa using l3))
  cases ls with
  | nil =>
    rw [br_eq (by simp)]
    exact fail h2 _ e3 rfl f2 rfl
  | cons l0 rest =>
  rw [br_neq (by simp; omega)]
  have hlen := hm2.len
  obtain ⟨s, rfl⟩ : ∃ s, x = some s := by
    cases x with
    | none => simp [lenO] at hlen
    | some s => exact ⟨s, rfl⟩
  simp only [ob_some]
  have hl0 : 0 < (l0 :: rest).length := by simp
  refine mat_i hm2 0 rfl hl0 fun y hy hby => ?_
  refine depotref23_Parse_ok hby (by have := hll _ (List.getElem_mem hl0); omega) fun x' h19 p1 p2 f19 i19 => ?_
  simp only [List.getElem_cons_zero] at p1 p2
  refine new_i fun i28 h27 e27 f27 l28 => put_i e27 rfl fun h29 e29 f29 => ?_
  have hf2 := f2.len
  have hf19 := f19.len
  have f27' := f19.trans f27
  have f29' : Fr [] h2 h29 := f27'.tr f29 (by simp; omega)
  have ft := f2.trans f29'
  have e3' := f29'.kept e3
  simp only [cell_of e29, List.getElem?_cons_zero, List.getElem?_cons_succ, ob_some, chkInt_int]
  simp only [List.getElem_cons_zero] at e29 ⊢
  generalize hls : (l0 :: rest).take 16 = l16
  have hscan : scanS (l0 :: rest) = if saysB l16 (ifOk l0 (pEp l0)) 0 1 0 1 = true ∧ pLoad l0 = [] then
      match (if 0 < lastTo l16 l16.length then scanSeal l16 (ifOk l0 (pEp l0)) (lastTo l16 l16.length) else none) with
      | some l => some (ifOk l0 (pEp l0), true, l)
      | none => some (ifOk l0 (pEp l0), false, eachS l16 (ifOk l0 (pEp l0)) (lastTo l16 l16.length) (lastTo l16 l16.length) 1)
    else none := by rw [← hls]; rfl
  refine depotref25_is_ok hll (hm.kept ft) (n := 0) ⟨fun h1 x1 h33 f33 => ?_, fun h1 l x1 h33 hl hz hby1 f33 => ?_⟩
  · simp only [Bool.not_false, br_true]
    rw [hls] at h1
    exact fail h33 _ (f33.kept e3') rfl (ft.trans f33) (by rw [hscan, if_neg (fun hc => by have := hc.1; rw [show ((0 : Nat) : Int) = 0 from rfl] at h1; rw [h1] at this; cases this)])
  simp only [Bool.not_true, br_false]
  rw [hls] at h1 hl
  have h0 : l16[0]? = some l0 := by rw [← hls]; rfl
  rw [h0] at hl
  cases hl
  rw [By.len hby1]
  have ft33 := ft.trans f33
  have e33 := f33.kept e3'
  refine br_dec (fun h2 => ?_) fun h2 => ?_
  · exact fail h33 _ e33 rfl ft33 (by rw [hscan, if_neg (fun hc => by rw [hc.2] at h2; simp at h2)])
  have hnil : pLoad l0 = [] := List.length_eq_zero_iff.1 (by omega)
  rw [if_pos ⟨h1, hnil⟩] at hscan
  have e28 := f33.kept e29
  simp only [cell_of e28, List.getElem?_cons_zero, List.getElem?_cons_succ, ob_some, chkInt_int]
  refine new_i fun i61 h60 e60 f60 l61 => put_i e60 rfl fun h62 e62 f62 => ?_
  have f62' : Fr [] h33 h62 := f60.tr f62 (by simpa using l61)
  have ft62 := ft33.trans f62'
  have hf33 := f33.len
  have hf29 := f29'.len
  have b28 := (List.getElem?_eq_some_iff.1 e28).1
  have b333 := (List.getElem?_eq_some_iff.1 e33).1
  have hn0 : 0 < l16.length := by rw [← hls]; simp
  have el16 : l16.length = min 16 (l0 :: rest).length := by rw [← hls, List.length_take]
  have eK : IntKind.wrap .i64 ((if (16 : Int) < (((l0 :: rest).length : Nat) : Int) then 16 else (((l0 :: rest).length : Nat) : Int)) - 1) = ((l16.length - 1 : Nat) : Int) := by
    rw [wrap_i64 (by split <;> omega) (by split <;> omega)]; split <;> omega
  have elen : lenO (some s) = (l0 :: rest).length := hlen
  first
    | rw [eK]
    | rw [elen, eK]
  refine depotref25_Scan_L0_ok hll (hm.kept ft62) (l16.length - 1) (by omega) (by omega) ?_
  rw [hls, show l16.length - 1 + 1 = l16.length by omega]
  have hlast := lastTo_lt l16 l16.length hn0
  have e3_62 := f62'.kept e33
  have e28_62 := f62'.kept e28
  have ne1 : i28 ≠ i61 := by omega
  have ne3 : i3 ≠ i61 := by omega
  -- without a seal
  have each : ∀ hx, Fr [] h62 hx → scanS (l0 :: rest) = some (ifOk l0 (pEp l0), false, eachS l16 (ifOk l0 (pEp l0)) (lastTo l16 l16.length) (lastTo l16 l16.length) 1) →
      depotref25_Scan_L1 (some s) (some (i3, 0)) (some (i28, 0)) (some (i61, 0)) (lastTo l16 l16.length : Int) 1 hx
        (fun h156 => ob (AH.cellsAt h156 i61 0 3) fun cs157 => asCons cs157 fun v158 l159 => chkInt .i64 v158 fun n160 => asCons l159 fun v161 l162 => chkBool v161 fun b163 => asCons l162 fun v164 l165 => chkSl v164 fun x166 => asNil l165 <|
          ob (AH.puts h156 i3 0 [.int .i64 n160, .bool b163, .slice x166]) fun h167 => ob (AH.cellsAt h167 i3 0 3) fun cs168 => asCons cs168 fun v169 l170 => chkInt .i64 v169 fun n171 => asCons l170 fun v172 l173 => chkBool v172 fun b174 => asCons l173 fun v175 l176 => chkSl v175 fun x177 => asNil l176 <| K n171 b174 x177 true h167) := by
    intro hx fx hS
    have e61x := fx.kept e62
    refine depotref25_Scan_L1_ok (h0 := h) (i3 := i3) (R := eachS l16 (ifOk l0 (pEp l0)) (lastTo l16 l16.length) (lastTo l16 l16.length) 1) hll (by rw [hls]; exact hlast) hm (by have := ft33.len; omega) ne1 (by rfl) (fun x' h' e' o' f' i' e3'' => ?_) ne3 (lastTo l16 l16.length) 1 [] none hx (by omega) (by omega) (by simp) (ft62.trans fx) e61x (fx.kept e28_62) (fx.kept e3_62) rfl (by simp [ids]) (by rw [hls]; rfl)
    refine ob_all e' rfl ?_
    simp only [asCons_cons, chkInt_int, chkBool_bool, chkSl_slice, asNil_nil]
    refine retR (K := fun n m y h' => K n m y true h') e3'' rfl fun h'' f'' => hk.yes _ _ _ hS x' h'' (o'.slAt.fr f'' fun q h1 h2 => ?_) (f'.tr f'' (by simpa using l3)) fun q h1 => (i' q h1).1
    exact (i' q (slId_ids q h1)).2.2.2 (by simpa using h2)
  refine br_dec (fun h3 => ?_) fun h3 => ?_
  · rw [if_pos (by omega)] at hscan
    simp only [cell_of e28_62, List.getElem?_cons_zero, List.getElem?_cons_succ, ob_some, chkInt_int]
    refine depotref25_is_ok hll (hm.kept ft62) ⟨fun h4 x4 h86 f86 => ?_, fun h4 l x4 h86 hl4 hz4 hby4 f86 => ?_⟩
    · rw [hls] at h4
      simp only [br_false]
      rw [show scanSeal l16 (ifOk l0 (pEp l0)) (lastTo l16 l16.length) = none by unfold scanSeal; rw [if_neg (by rw [h4]; decide)]] at hscan
      exact each h86 f86 hscan
    · rw [hls] at h4 hl4
      simp only [br_true]
      have hS : scanSeal l16 (ifOk l0 (pEp l0)) (lastTo l16 l16.length) = sealItems (pLoad l) (lastTo l16 l16.length) := by unfold scanSeal; rw [if_pos h4, getD_of hl4]
      rw [hS] at hscan
      have hpl := pLoad_len l
      have := hll l (List.mem_of_mem_take (hls ▸ List.mem_of_getElem? hl4))
      refine depotref25_sealed_ok (by omega) hby4 (fun h5 x5 h90 f90 => ?_) fun L h5 x5 h90 o90 f90 i90 => ?_
      · simp only [br_false]
        rw [h5] at hscan
        exact each h90 (f86.trans f90) hscan
      · simp only [br_true]
        rw [h5] at hscan
        have f90' := f86.trans f90
        have hl86 := (ft62.trans f86).len
        have hf62 := f62'.len
        have hf86 := f86.len
        have b61 := (List.getElem?_eq_some_iff.1 (f86.kept e62)).1
        have b3' := (List.getElem?_eq_some_iff.1 (f86.kept e3_62)).1
        have e61 := f90'.kept e62
        refine put1_i e61 (by simp) fun h93 e93 f93 => ?_
        simp only [List.set_cons_zero, List.set_cons_succ] at e93
        refine put1_i e93 (by simp) fun h94 e94 f94 => ?_
        simp only [List.set_cons_zero, List.set_cons_succ] at e94
        refine ob_all e94 rfl ?_
        simp only [asCons_cons, chkInt_int, chkBool_bool, chkSl_slice, asNil_nil]
        have f94' := f93.trans f94
        have e3_94 := f94'.keep (f90'.kept e3_62) (by simpa using ne3)
        have fh94 : Fr [] h h94 := (ft62.trans f90').tr f94' (by have := ft33.len; simp; omega)
        refine retR (K := fun n m y h' => K n m y true h') e3_94 rfl fun h' f' => hk.yes _ _ _ hscan x5 h' ((o90.slAt.fr f94' fun q h6 h7 => ?_).fr f' fun q h6 h7 => ?_) (fh94.tr f' (by simpa using l3)) fun q h6 => by have := i90 q h6; omega
        · have := i90 q (slId_ids q h6); simp at h7; omega
        · have := i90 q (slId_ids q h6); simp at h7; omega
  · rw [if_neg (by omega)] at hscan
    exact each h62 (.refl _ _) hscan

/-! Parts -/

theorem depotref25_Parts_L0_ok {ls : List (List UInt8)} (hln : ls.length < 100000) (hll : ∀ l ∈ ls, l.length < 100000) {z : Option Sl} {px : List (Option Sl)} {i6 : Nat} {kind page pages : Int} {h0 : AH} (hm0 : Mat h0 z px ls) {hi : AH} (f0 : Fr [] h0 hi) (h6 : hi[i6]? = some (.cells [.int .i64 kind, .int .i64 page, .int .i64 pages] false)) {Kr K0 : AV → Option Sl → AH → Prop} {R : Option (List (List UInt8))}
    (hk : ∀ L, R = some L → ∀ x' xs h', MatO hi h' x' xs L → Fr [] h0 h' → K0 .bot x' h') (hbad : R = none → ∀ x' h', Fr [] h0 h' → Kr (.slice none) x' h') :
    ∀ (n k : Nat) (acc : List (List UInt8)) (x : Option Sl) (xs : List (Option Sl)) (h : AH), k + n = ls.length + 1 → acc.length = k → Fr [] hi h → MatO hi h x xs acc → (partsS ls page pages n k).map (acc ++ ·) = R → depotref25_Parts_L0 z (some (i6, 0)) x (k : Int) h Kr K0
  | n, k, acc, x, xs, h, hn, ha, f, m, hR => by
    have e6 := f.kept h6
    have f0' := f0.trans f
    refine depotref25_Parts_L0.go ?_
    unfold depotref25_Parts_L0w
    simp only [ob_some, Nat.zero_add, cell_of e6, List.getElem?_cons_zero, List.getElem?_cons_succ, chkInt_int]
    refine br_dec (fun h1 => ?_) fun h1 => ?_
    case refine_2 =>
      have : partsS ls page pages n k = some [] := by cases n <;> (unfold partsS; rw [if_neg h1])
      rw [this] at hR
      simp at hR
      exact hk acc hR.symm x xs h m f0'
    have hm := hm0.kept f0'
    rw [hm.len]
    have bad : page < 0 ∨ (ls.length : Int) ≤ page + k → Kr (.slice none) x h := fun hc => by
      refine hbad ?_ _ _ f0'
      cases n with
      | zero => unfold partsS at hR; rw [if_pos h1] at hR; exact hR.symm
      | succ n => unfold partsS at hR; rw [if_pos h1, if_pos hc] at hR; exact hR.symm
    refine br_dec (fun h2 => bad (.inl h2)) fun h2 => ?_
    refine br_dec (fun h3 => bad (.inr (by omega))) fun h3 => ?_
    rw [wrap_i64 (by omega) (by omega)]
    refine br_dec (fun h3 => bad (.inr (by omega))) fun h3 => ?_
    match n, hn, hR with
    | 0, hn, hR => omega
    | n + 1, hn, hR =>
    unfold partsS at hR
    rw [if_pos h1, if_neg (by omega)] at hR
    obtain ⟨pg, rfl⟩ := Int.eq_ofNat_of_zero_le (show 0 ≤ page by omega)
    rw [show (pg : Int) + (k : Int) = ((pg + k : Nat) : Int) by omega]
    rw [Int.toNat_natCast] at hR
    have hlt : pg + k < ls.length := by omega
    have hlen := hm.len
    obtain ⟨s, rfl⟩ : ∃ s, z = some s := by
      cases z with
      | none => simp [lenO] at hlen; omega
      | some s => exact ⟨s, rfl⟩
    simp only [ob_some]
    refine mat_i hm (pg + k) rfl hlt fun y hy hby => ?_
    have hyl := hll _ (List.getElem_mem hlt)
    have hgd : ls.getD (pg + k) [] = ls[pg + k] := getD_of (List.getElem?_eq_getElem hlt)
    rw [hgd] at hR
    refine depotref23_Parse_ok hby (by omega) fun x' h36 p1 p2 f36 i36 => ?_
    refine new_i fun i45 h44 e44 f44 l44 => put_i e44 rfl fun h46 e46 f46 => ?_
    have f46' : Fr [] h h46 := (f36.trans f44).tr f46 (by have := f36.len; simp; omega)
    refine br_ine (fun h4 => ?_) fun h4 => ?_
    · rw [if_neg h4] at hR
      exact hbad hR.symm _ _ (f0'.trans f46')
    rw [if_pos h4] at hR
    refine new_i fun i48 h47 e47 f47 l47 => ?_
    have f47' := f46'.trans f47
    have hs47 : SlAt h47 1 (some ⟨i48, 0, 1, 1, none⟩) (slCells [x']) := SlAt.made e47 rfl
    have el : lenO x = k := by have := m.mat.len; omega
    refine append_own (bytes := 24) (m.own.kept f47') (fun K' => aNews_at hs47 (by decide) K') (by simp [lenO, slCells]) (slCells_scal _) (by show (lenO x + 1) * 24 ≤ _; omega) fun x'' h52 o52 f52 i52 => ?_
    have hz47 : By h47 x' (pLoad ls[pg + k]) := (p1 h4).kept ((f44.tr f46 (by simpa using l44)).trans f47)
    have m' := m.snoc f47' f.len hz47 i36 o52 f52 i52
    rw [wrap_i64 (by omega) (by omega)]
    refine depotref25_Parts_L0_ok hln hll hm0 f0 h6 hk hbad n (k + 1) (acc ++ [pLoad ls[pg + k]]) x'' (xs ++ [x']) h52 (by omega) (by simp [ha]) ((f.trans f47').tr f52 m.ids) m' ?_
    rw [← hR]
    cases partsS ls pg pages n (k + 1) <;> simp

theorem depotref25_Parts_ok {ls : List (List UInt8)} (hln : ls.length < 100000) (hll : ∀ l ∈ ls, l.length < 100000) {z : Option Sl} {px : List (Option Sl)} {kind page pages : Int} {h : AH} (hm : Mat h z px ls) {K : Option Sl → AH → Prop} (hk : PartsK h ls page pages K) : depotref25_Parts z kind page pages h K := by
  refine depotref25_Parts.go ?_
  unfold depotref25_Partsw
  refine new_i fun i6 h5 e5 f5 l5 => ?_
  refine depotref25_Parts_L0_ok hln hll hm f5 e5 (R := partsS ls page pages (ls.length + 1) 0) (fun L hL x' xs h' m f => hk.yes L hL x' xs h' (m.mono f5.len) f) (fun hL x' h' f => ?_) (ls.length + 1) 0 [] none [] h5 (by omega) rfl (.refl _ _) (MatO.nil _ _) (by simp)
  simp only [chkSl_slice]
  exact hk.no hL h' f

/-! Few, Same -/

theorem depotref24_Few_ok {x : Option Sl} {px : List (Option Sl)} {ls : List (List UInt8)} {h : AH} (hm : Mat h x px ls) {most : Nat} (hmost : most < 1000) {bytes : Int} {K : Bool → AH → Prop} (hf : K false h) (ht : ls.length ≤ most → (∀ l ∈ ls, (l.length : Int) ≤ bytes) → K true h) : depotref24_Few x (most : Int) bytes h K := by
  refine depotref24_Few.go ?_
  unfold depotref24_Feww
  have hlen := hm.len
  have loop : ∀ (n k : Nat), k + n = most + 1 → (∀ j, (hj : j < ls.length) → j < k → (ls[j].length : Int) ≤ bytes) → depotref24_Few_L0 x (most : Int) bytes (k : Int) h (fun u18 h17 => chkBool u18 fun b19 => K b19 h17) (fun _ h20 => K (decide (((lenO x : Nat) : Int) ≤ most)) h20) := by
    intro n
    induction n with
    | zero =>
      intro k hn hv
      refine depotref24_Few_L0.go ?_
      unfold depotref24_Few_L0w
      rw [hlen]
      have out : K (decide ((ls.length : Int) ≤ most)) h := by
        by_cases hc : (ls.length : Int) ≤ most
        · rw [decide_eq_true hc]
          exact ht (by omega) fun l hl => by
            obtain ⟨j, hj, rfl⟩ := List.mem_iff_getElem.1 hl
            exact hv j hj (by omega)
        · rw [decide_eq_false hc]; exact hf
      refine br_dec (fun h1 => ?_) fun h1 => ?_
      · rw [br_neg (by omega)]
        simp only [AV.beq_self, guardR_true]
        exact out
      · simp only [AV.beq_self, guardR_true]
        exact out
    | succ n ih =>
      intro k hn hv
      refine depotref24_Few_L0.go ?_
      unfold depotref24_Few_L0w
      rw [hlen]
      refine br_dec (fun h1 => ?_) fun h1 => ?_
      · rw [br_pos (by omega)]
        have hlt : k < ls.length := by omega
        obtain ⟨s, rfl⟩ : ∃ s, x = some s := by
          cases x with
          | none => simp [lenO] at hlen; omega
          | some s => exact ⟨s, rfl⟩
        simp only [ob_some]
        refine mat_i hm k rfl hlt fun y hy hby => ?_
        rw [By.len hby]
        refine br_dec (fun h2 => ?_) fun h2 => ?_
        · simp only [AV.beq_self, guardR_true, chkBool_bool]
          exact hf
        · rw [wrap_i64 (by omega) (by omega)]
          have := ih (k + 1) (by omega) fun j hj h3 => by
            by_cases h4 : j = k
            · subst h4; omega
            · exact hv j hj (by omega)
          rw [hlen] at this
          exact this
      · simp only [AV.beq_self, guardR_true]
        rw [decide_eq_true (by omega)]
        exact ht (by omega) fun l hl => by
          obtain ⟨j, hj, rfl⟩ := List.mem_iff_getElem.1 hl
          exact hv j hj (by omega)
  exact loop (most + 1) 0 (by omega) (by omega)

theorem depotref24_Same_ok {x y : Option Sl} {px py : List (Option Sl)} {A B : List (List UInt8)} {h : AH} (hx : Mat h x px A) (hy : Mat h y py B) (hA : A.length < 100000) {K : Bool → AH → Prop} (hk : K (decide (A = B)) h) : depotref24_Same x y h K := by
  refine depotref24_Same.go ?_
  unfold depotref24_Samew
  have lx := hx.len
  have ly := hy.len
  rw [lx, ly]
  refine br_ine (fun hne => ?_) fun heq => ?_
  · rwa [decide_eq_false (fun h => hne (by rw [h]))] at hk
  have hl : A.length = B.length := by omega
  have loop : ∀ (n k : Nat), k + n = A.length → A.take k = B.take k → depotref24_Same_L0 x y (k : Int) h (fun u24 h23 => chkBool u24 fun b25 => K b25 h23) (fun _ h26 => K true h26) := by
    intro n
    induction n with
    | zero =>
      intro k hn he
      refine depotref24_Same_L0.go ?_
      unfold depotref24_Same_L0w
      rw [lx, br_neg (by omega)]
      rw [List.take_of_length_le (by omega), List.take_of_length_le (by omega)] at he
      rw [decide_eq_true he] at hk
      exact hk
    | succ n ih =>
      intro k hn he
      have hlt : k < A.length := by omega
      have hlt2 : k < B.length := by omega
      obtain ⟨s, rfl⟩ : ∃ s, x = some s := by
        cases x with
        | none => simp [lenO] at lx; omega
        | some s => exact ⟨s, rfl⟩
      obtain ⟨t, rfl⟩ : ∃ s, y = some s := by
        cases y with
        | none => simp [lenO] at ly; omega
        | some s => exact ⟨s, rfl⟩
      refine depotref24_Same_L0.go ?_
      unfold depotref24_Same_L0w
      rw [lx, br_pos (by omega)]
      refine hold0_i ?_
      simp only [ob_some]
      refine mat_i hx k rfl hlt fun a ha hba => ?_
      obtain ⟨q1, e1⟩ := aBytes_by hba (fun q16 y17 => need ((0 : Int) ≤ (k : Int) ∧ (k : Int) < ((t.len : Nat) : Int)) <| ob (AH.cell h t.id (t.off + Int.toNat (k : Int) * 1)) fun v19 => chkSl v19 fun x20 => aBytes h x20 fun q21 y22 => br (!(y17 == y22)) (chkBool (.bool false) fun b25 => K b25 h) (depotref24_Same_L0 (some s) (some t) (IntKind.wrap .i64 ((k : Int) + 1)) h (fun u24 h23 => chkBool u24 fun b25 => K b25 h23) (fun _ h26 => K true h26)))
      rw [e1]
      refine mat_i hy k rfl hlt2 fun b hb hbb => ?_
      obtain ⟨q2, e2⟩ := aBytes_by hbb (fun q21 y22 => br (!(A[k] == y22)) (chkBool (.bool false) fun b25 => K b25 h) (depotref24_Same_L0 (some s) (some t) (IntKind.wrap .i64 ((k : Int) + 1)) h (fun u24 h23 => chkBool u24 fun b25 => K b25 h23) (fun _ h26 => K true h26)))
      rw [e2]
      refine br_intro (fun h1 => ?_) fun h1 => ?_
      · rw [decide_eq_false (fun hab => by subst hab; simp at h1)] at hk
        exact hk
      · rw [wrap_i64 (by omega) (by omega)]
        refine ih (k + 1) (by omega) ?_
        have : A[k] = B[k] := by simpa using h1
        rw [List.take_add_one, List.take_add_one, he, List.getElem?_eq_getElem hlt, List.getElem?_eq_getElem hlt2, this]
  exact loop A.length 0 (by omega) (by simp)

end Go.Abs
