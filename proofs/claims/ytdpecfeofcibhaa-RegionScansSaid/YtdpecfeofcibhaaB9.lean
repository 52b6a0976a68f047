/- What an image says: the reference, by making the image again. -/
import Derived.Test.YtdpecfeofcibhaaB8
namespace Go.Abs

theorem byteAt_cons (b : UInt8) (m i : Nat) : byteAt (b.toNat + 256 * m) (i + 1) = byteAt m i := by
  unfold byteAt
  congr 1
  have hb := b.toNat_lt
  rw [Nat.pow_succ, Nat.mul_comm (256 ^ i) 256, ← Nat.div_div_eq_div_mul]
  congr 1
  omega
theorem leBytes_leNat : ∀ l : List UInt8, leBytes (leNat l) l.length = l
  | [] => rfl
  | b :: l => by
    have ih := leBytes_leNat l
    unfold leBytes at ih ⊢
    rw [List.length_cons, List.range_succ_eq_map, List.map_cons, List.map_map]
    have e0 : byteAt (leNat (b :: l)) 0 = b := by
      have hb := b.toNat_lt
      refine UInt8.toNat_inj.1 ?_
      rw [byteAt_toNat, Nat.pow_zero, Nat.div_one]
      simp only [leNat]; omega
    rw [e0]
    congr 1
    refine Eq.trans ?_ ih
    refine List.map_congr_left fun i _ => ?_
    show byteAt (b.toNat + 256 * leNat l) (i + 1) = _
    rw [byteAt_cons]
theorem leBytes_of {l : List UInt8} {n : Nat} (h : l.length = n) : leBytes (leNat l) n = l := by rw [← h]; exact leBytes_leNat l
theorem leNat_leBytes (m : Nat) : ∀ w, m < 256 ^ w → leNat (leBytes m w) = m := by
  intro w
  induction w generalizing m with
  | zero => intro h; simp at h; subst h; rfl
  | succ w ih =>
    intro h
    have e : leBytes m (w + 1) = UInt8.ofNat m :: leBytes (m / 256) w := by
      unfold leBytes
      rw [List.range_succ_eq_map, List.map_cons, List.map_map]
      congr 1
      · simp [byteAt]
      · refine List.map_congr_left fun i _ => ?_
        show byteAt m (i + 1) = byteAt (m / 256) i
        unfold byteAt
        rw [Nat.pow_succ, Nat.mul_comm (256 ^ i) 256, ← Nat.div_div_eq_div_mul]
    rw [e, leNat, ih _ (by rw [Nat.pow_succ] at h; omega), UInt8.toNat_ofNat']
    omega

theorem take_getB {l : List UInt8} (h : 4 ≤ l.length) : l.take 4 = [getB l 0, getB l 1, getB l 2, getB l 3] := by
  match l, h with
  | a :: b :: c :: d :: l, _ => rfl
theorem take2_getB {l : List UInt8} (h : 10 ≤ l.length) : (l.drop 8).take 2 = [getB l 8, getB l 9] := by
  match l, h with
  | _ :: _ :: _ :: _ :: _ :: _ :: _ :: _ :: a :: b :: l, _ => rfl

theorem zeros_replicate {l : List UInt8} : zeros l = true ↔ l = List.replicate l.length 0 := by
  unfold zeros
  rw [List.all_eq_true]
  constructor
  · intro h
    refine List.eq_replicate_iff.2 ⟨rfl, fun b hb => ?_⟩
    simpa using h b hb
  · intro h b hb
    have := (List.eq_replicate_iff.1 h).2 b hb
    simp [this]

/-- An image's parts. -/
theorem parts_eq {l : List UInt8} (h1 : 64 ≤ l.length) (hn : pLen l ≤ l.length - 16) : l = [getB l 0, getB l 1, getB l 2, getB l 3] ++ (l.drop 4).take 4 ++ [getB l 8, getB l 9] ++ (l.drop 10).take 2 ++ pLoad l ++ pPad l ++ (l.drop (l.length - 4)).take 4 := by
  have a1 : l = l.take 4 ++ l.drop 4 := (List.take_append_drop 4 l).symm
  have a2 : l.drop 4 = (l.drop 4).take 4 ++ l.drop 8 := by rw [show l.drop 8 = (l.drop 4).drop 4 by rw [List.drop_drop]]; exact (List.take_append_drop 4 _).symm
  have a3 : l.drop 8 = (l.drop 8).take 2 ++ l.drop 10 := by rw [show l.drop 10 = (l.drop 8).drop 2 by rw [List.drop_drop]]; exact (List.take_append_drop 2 _).symm
  have a4 : l.drop 10 = (l.drop 10).take 2 ++ l.drop 12 := by rw [show l.drop 12 = (l.drop 10).drop 2 by rw [List.drop_drop]]; exact (List.take_append_drop 2 _).symm
  have a5 : l.drop 12 = pLoad l ++ l.drop (12 + pLen l) := by unfold pLoad; rw [← List.drop_drop]; exact (List.take_append_drop _ _).symm
  have a6 : l.drop (12 + pLen l) = pPad l ++ l.drop (l.length - 4) := by
    unfold pPad
    rw [show l.drop (l.length - 4) = (l.drop (12 + pLen l)).drop (l.length - 4 - (12 + pLen l)) by rw [List.drop_drop]; congr 1; omega]
    exact (List.take_append_drop _ _).symm
  have a7 : (l.drop (l.length - 4)).take 4 = l.drop (l.length - 4) := List.take_of_length_le (by simp; omega)
  rw [a7, ← take_getB (by omega), ← take2_getB (by omega)]
  conv => lhs; rw [a1, a2, a3, a4, a5, a6]
  simp only [List.append_assoc]

theorem ofNat_getB (l : List UInt8) (i : Nat) : UInt8.ofNat (getB l i).toNat = getB l i := by simp

theorem image_of {l : List UInt8} (h1 : 64 ≤ l.length) (hn : pLen l ≤ l.length - 16) : imgBody (getB l 0).toNat (getB l 1).toNat (getB l 2).toNat (pEp l) (getB l 8).toNat (pLoad l) l.length =
    [getB l 0, getB l 1, getB l 2, 165] ++ (l.drop 4).take 4 ++ [getB l 8, 0] ++ (l.drop 10).take 2 ++ pLoad l ++ List.replicate (l.length - 16 - pLen l) 0 := by
  have hll : (pLoad l).length = pLen l := by unfold pLoad; simp; omega
  unfold imgBody
  rw [hll, ofNat_getB, ofNat_getB, ofNat_getB, ofNat_getB]
  have e1 : leBytes (pEp l) 4 = (l.drop 4).take 4 := leBytes_of (by simp; omega)
  have e2 : leBytes (pLen l) 2 = (l.drop 10).take 2 := leBytes_of (by simp; omega)
  rw [e1, e2]

theorem image_eq {l : List UInt8} (h1 : 64 ≤ l.length) (hsum : crcSum (l.take (l.length - 4)) = pSum l) (hn : pLen l ≤ l.length - 16) :
    image (getB l 0).toNat (getB l 1).toNat (getB l 2).toNat (pEp l) (getB l 8).toNat (pLoad l) l.length = l ↔ (getB l 3 = 165 ∧ getB l 9 = 0 ∧ zeros (pPad l) = true) := by
  have hll : (pLoad l).length = pLen l := by unfold pLoad; simp; omega
  have hpp : (pPad l).length = l.length - 16 - pLen l := by unfold pPad; simp; omega
  have hb := image_of h1 hn
  have hp := parts_eq h1 hn
  have hbl := imgBody_length (k := (getB l 0).toNat) (p := (getB l 1).toNat) (q := (getB l 2).toNat) (e := pEp l) (g := (getB l 8).toNat) (l := pLoad l) (size := l.length) h1 (by omega)
  have h3t : l.take (l.length - 4) = [getB l 0, getB l 1, getB l 2, getB l 3] ++ (l.drop 4).take 4 ++ [getB l 8, getB l 9] ++ (l.drop 10).take 2 ++ pLoad l ++ pPad l :=
    (congrArg (List.take (l.length - 4)) hp).trans (List.take_left' (by simp; omega))
  constructor
  · intro h
    unfold image at h
    have h2 : imgBody (getB l 0).toNat (getB l 1).toNat (getB l 2).toNat (pEp l) (getB l 8).toNat (pLoad l) l.length = l.take (l.length - 4) := by
      conv => rhs; rw [← h]
      rw [List.take_append_of_le_length (by rw [h]; omega), List.take_of_length_le (by rw [h]; omega)]
    rw [hb, h3t] at h2
    have h4 := List.append_inj h2 (by simp)
    have h5 := List.append_inj h4.1 (by simp)
    have h6 := List.append_inj h5.1 (by simp)
    have h7 := List.append_inj h6.1 (by simp)
    have h8 := List.append_inj h7.1 (by simp)
    refine ⟨?_, ?_, zeros_replicate.2 ?_⟩
    · have := h8.1; simp at this; exact this.symm
    · have := h7.2; simp at this; exact this.symm
    · rw [hpp]; exact h4.2.symm
  · rintro ⟨h3, h9, hz⟩
    have h2 : imgBody (getB l 0).toNat (getB l 1).toNat (getB l 2).toNat (pEp l) (getB l 8).toNat (pLoad l) l.length = l.take (l.length - 4) := by
      rw [hb, h3t, h3, h9, ← hpp, ← zeros_replicate.1 hz]
    unfold image
    rw [h2, hsum]
    unfold pSum
    rw [leBytes_of (by simp; omega), show (l.drop (l.length - 4)).take 4 = l.drop (l.length - 4) from List.take_of_length_le (by simp; omega)]
    exact List.take_append_drop _ _

theorem depotref23_Parse_ok {b : Option Sl} {l : List UInt8} {h : AH} (hb : By h b l) (hl : l.length < 1000000) {K : Int → Int → Int → Int → Int → Option Sl → Int → AH → Prop} (hk : ParseK h l K) : depotref23_Parse b h K := by
  refine depotref23_Parse.go ?_
  unfold depotref23_Parsew
  refine new_i fun i3 h2 e3 f3 l3 => depotref23_sized_ok ?_
  rw [By.len hb]
  by_cases hs : sizedB l.length = true
  case neg =>
    have hs' : sizedB l.length = false := by simpa using hs
    rw [hs']
    exact ret5 e3 rfl fun h' f' => hk.fail (parseE_2 hs') (by decide) (f3.tr f' (by simpa using l3))
  have hs2 := sizedB_iff.1 hs
  rw [hs]
  simp only [Bool.not_true, br_false]
  have hb2 := hb.kept f3
  refine depotref23_Blank_ok hb2 hl ?_
  by_cases hbl : blankB l = true
  · rw [hbl]
    exact ret5 e3 rfl fun h' f' => hk.fail (parseE_15 hs hbl) (by decide) (f3.tr f' (by simpa using l3))
  have hbl' : blankB l = false := by simpa using hbl
  rw [hbl']
  simp only [br_false]
  have ew : IntKind.wrap .i64 ((l.length : Int) - 4) = ((l.length - 4 : Nat) : Int) := by rw [wrap_i64 (by omega) (by omega)]; omega
  rw [ew]
  refine depotref03_Get_ok (w := 4) hb2 hl (by omega) (by omega) (by omega) ?_
  refine need_i (by omega) (guardR_i hb.cutOk ?_)
  rw [Int.toNat_natCast]
  have hcut := By.cut hb2 (i := 0) (j := l.length - 4) (by omega) (by omega)
  rw [List.drop_zero, Nat.sub_zero] at hcut
  refine depotref04_Sum_ok hcut (by simp; omega) ?_
  by_cases hsum : crcSum (l.take (l.length - 4)) = pSum l
  case neg =>
    rw [br_ne_neq (fun h => hsum (by unfold pSum; omega))]
    exact ret5 e3 rfl fun h' f' => hk.fail (parseE_12 hs hbl' hsum) (by decide) (f3.tr f' (by simpa using l3))
  rw [br_ne_eq (by unfold pSum at hsum; omega)]
  refine depotref03_Get_ok (a := 4) (w := 4) hb2 hl (by omega) (by omega) (by omega) ?_
  refine depotref03_Get_ok (a := 10) (w := 2) hb2 hl (by omega) (by omega) (by omega) ?_
  obtain ⟨s, rfl⟩ : ∃ s, b = some s := by
    cases b with
    | none => have := By.len hb; simp [lenO] at this; omega
    | some s => exact ⟨s, rfl⟩
  refine hold_i fun h68 f68 u68 => ?_
  simp only [ob_some]
  have f68' := f3.trans f68
  have hb68 := hb.kept f68'
  refine byte_i hb68 0 rfl (by omega) (byte_i hb68 1 rfl (by omega) (byte_i hb68 2 rfl (by omega) (byte_i hb68 8 rfl (by omega) ?_)))
  have u0 := u68 0 (by omega)
  have hle := f3.len
  refine birth_i u0 fun h84 e84 f84 => put_i e84 rfl fun h85 e85 f85 => ?_
  have f84' := f68'.tr f84 (by simpa using hle)
  have f85' := f84'.tr f85 (by simpa using hle)
  have hi3 : i3 < h2.length := (List.getElem?_eq_some_iff.1 e3).1
  have e3' : h85[i3]? = some (.cells [.int .i64 0, .int .i64 0, .int .i64 0, .int .i64 0, .int .i64 0] false) := f85.keep (f84.keep (f68.kept e3) (by simp; omega)) (by simp; omega)
  have hb85 := hb.kept f85'
  have hfail : ∀ (hx : AH) (c : List AV), hx[i3]? = some (.cells c false) → c.length = 5 → Fr [] h hx → ¬(getB l 3 = 165 ∧ getB l 9 = 0 ∧ pLen l ≤ l.length - 16 ∧ pHeadE l = 0 ∧ zeros (pPad l) = true) →
      ob (hx.puts i3 0 [.int .i64 0, .int .i64 0, .int .i64 0, .int .i64 0, .int .i64 0]) fun h' => ob (h'.cellsAt i3 0 5) fun cs => ints5 .i64 cs fun n1 n2 n3 n4 n5 => K n1 n2 n3 n4 n5 none 5 h' :=
    fun hx c ec hc fx hno => ret5 (K := fun n1 n2 n3 n4 n5 h' => K n1 n2 n3 n4 n5 none 5 h') ec hc fun h' f' => hk.fail (parseE_5 hs hbl' hsum hno) (by decide) (fx.tr f' (by simpa using l3))
  have hpl := pLen_lt l
  rw [wrap_i64 (x := (l.length : Int) - 16) (by omega) (by omega)]
  refine br_dec (fun hgt => ?_) fun hng => ?_
  · refine hfail _ _ e3' rfl f85' fun hc => ?_
    have := hc.2.2.1
    unfold pLen at this
    omega
  have hng : pLen l ≤ l.length - 16 := by unfold pLen; omega
  simp only [wrap_u8i64] at e85 ⊢
  refine new_i fun i69 hA eA fA lA => ?_
  have fA' := f85'.trans fA
  have ew2 : IntKind.wrap .i64 (12 + ((leNat ((l.drop 10).take 2) : Nat) : Int)) = ((12 + pLen l : Nat) : Int) := by
    show IntKind.wrap .i64 (12 + ((pLen l : Nat) : Int)) = _
    rw [wrap_i64 (by omega) (by omega)]; omega
  simp only [ew2, Int.toNat_natCast]
  refine need_i (by omega) (need_i (by omega) (guardR_i hb.cutOk ?_))
  have hld := By.cut (hb.kept fA') (i := 12) (j := 12 + pLen l) (by omega) (by omega)
  have epl : (l.drop 12).take (12 + pLen l - 12) = pLoad l := by unfold pLoad; congr 1; omega
  rw [epl] at hld
  have hll : (pLoad l).length = pLen l := by unfold pLoad; simp; omega
  have oA : Own hA 1 (some ⟨i69, 0, 0, 0, none⟩) [] := Own.made eA (by simp)
  refine append_own (bytes := 1) oA (fun K' => aNews_at hld (by decide) K') (by rw [By.len hld]; simp) (bys_scal _) (by rw [By.len hld, hll]; show (0 + pLen l) * 1 ≤ _; omega) fun x' h73 o73 f73 i73 => ?_
  rw [List.nil_append] at o73
  have hA85 := (List.getElem?_eq_some_iff.1 e85).1
  have h3A := (List.getElem?_eq_some_iff.1 e3').1
  have hl85 := f85'.len
  have e85A := f73.keep (fA.kept e85) (by simp [ids]; omega)
  have e3A := f73.keep (fA.kept e3') (by simp [ids]; omega)
  have f73' := fA'.tr f73 (by simp [ids]; omega)
  have hidx : ∀ i ∈ ids x', h85.length ≤ i := fun i hi => by
    rcases i73 i hi with h1 | h1
    · simp [ids] at h1; omega
    · have := fA.len; omega
  refine ob_all e85A rfl ?_
  rw [ints5_eq]
  have himg : ∀ z : Int, pHeadE l = z → imgE (getB l 0).toNat (getB l 1).toNat (getB l 2).toNat (leNat ((l.drop 4).take 4) : Nat) (getB l 8).toNat (pLoad l).length (l.length : Int) = z := by
    intro z hz
    unfold imgE
    rw [if_pos hs]
    unfold pHeadE pEp at hz
    rw [hz]
    by_cases h0 : z = 0
    · rw [if_pos h0, if_neg (by omega)]; exact h0.symm
    · rw [if_neg h0]
  refine depotref23_Image_ok o73.slAt (by omega) (fun hne h' f' => ?_) fun h0 r82 h81 o82 f81 i81 => ?_
  · rw [himg _ rfl] at hne ⊢
    rw [br_ne_neq hne]
    exact hfail _ _ (f'.kept e3A) rfl (f73'.trans f') fun hc => hne hc.2.2.2.1
  have hh : pHeadE l = 0 := by rw [himg _ rfl] at h0; exact h0
  rw [br_ne_eq rfl]
  have hbs81 := o82.slAt
  obtain ⟨q1, eq1⟩ := aBytes_by hbs81 (fun q84 y85 => aBytes h81 (some s) fun q86 y87 =>
    br (!(y85 == y87)) (ob (AH.puts h81 i3 0 [.int .i64 0, .int .i64 0, .int .i64 0, .int .i64 0, .int .i64 0]) fun h95 => ob (AH.cellsAt h95 i3 0 5) fun cs96 => ints5 .i64 cs96 fun n97 n98 n99 n100 n101 => K n97 n98 n99 n100 n101 none 5 h95)
    (ob (AH.cellsAt h81 (h2.length + 0) 0 5) fun cs102 => ints5 .i64 cs102 fun n103 n104 n105 n106 n107 => ob (AH.puts h81 i3 0 [.int .i64 n103, .int .i64 n104, .int .i64 n105, .int .i64 n106, .int .i64 n107]) fun h108 =>
      ob (AH.cellsAt h108 i3 0 5) fun cs109 => ints5 .i64 cs109 fun n110 n111 n112 n113 n114 => K n110 n111 n112 n113 n114 x' 0 h108))
  refine eq1.mpr ?_
  have f81' := f73'.trans f81
  obtain ⟨q2, eq2⟩ := aBytes_by (hb.kept f81') (fun q86 y87 =>
    br (!(image (Int.toNat ((getB l 0).toNat : Int)) (Int.toNat ((getB l 1).toNat : Int)) (Int.toNat ((getB l 2).toNat : Int)) (Int.toNat ((leNat ((l.drop 4).take 4) : Nat) : Int)) (Int.toNat ((getB l 8).toNat : Int)) (pLoad l) (Int.toNat (l.length : Int)) == y87)) (ob (AH.puts h81 i3 0 [.int .i64 0, .int .i64 0, .int .i64 0, .int .i64 0, .int .i64 0]) fun h95 => ob (AH.cellsAt h95 i3 0 5) fun cs96 => ints5 .i64 cs96 fun n97 n98 n99 n100 n101 => K n97 n98 n99 n100 n101 none 5 h95)
    (ob (AH.cellsAt h81 (h2.length + 0) 0 5) fun cs102 => ints5 .i64 cs102 fun n103 n104 n105 n106 n107 => ob (AH.puts h81 i3 0 [.int .i64 n103, .int .i64 n104, .int .i64 n105, .int .i64 n106, .int .i64 n107]) fun h108 =>
      ob (AH.cellsAt h108 i3 0 5) fun cs109 => ints5 .i64 cs109 fun n110 n111 n112 n113 n114 => K n110 n111 n112 n113 n114 x' 0 h108))
  refine eq2.mpr ?_
  simp only [Int.toNat_natCast]
  have himeq := image_eq (by omega) hsum hng
  unfold pEp at himeq
  by_cases hc : getB l 3 = 165 ∧ getB l 9 = 0 ∧ zeros (pPad l) = true
  case neg =>
    have : (image (getB l 0).toNat (getB l 1).toNat (getB l 2).toNat (leNat ((l.drop 4).take 4)) (getB l 8).toNat (pLoad l) l.length == l) = false := by
      rw [beq_eq_false_iff_ne]; exact fun h => hc (himeq.1 h)
    rw [this]
    exact hfail _ _ (f81.kept e3A) rfl f81' fun h => hc ⟨h.1, h.2.1, h.2.2.2.2⟩
  have : (image (getB l 0).toNat (getB l 1).toNat (getB l 2).toNat (leNat ((l.drop 4).take 4)) (getB l 8).toNat (pLoad l) l.length == l) = true := by
    rw [beq_iff_eq]; exact himeq.2 hc
  rw [this]
  simp only [Bool.not_true, br_false]
  have hok : parseE l = 0 := parseE_0 hs hbl' hsum ⟨hc.1, hc.2.1, hng, hh, hc.2.2⟩
  refine ob_all (f81.kept e85A) rfl ?_
  rw [ints5_eq]
  refine put_i (f81.kept e3A) rfl fun h150 e150 f150 => ob_all e150 rfl ?_
  rw [ints5_eq]
  have hfin := hk x' h150 (fun _ => ?_) (fun hn => absurd hok hn) (f81'.tr f150 (by simpa using l3)) (fun i hi => by have := hidx i (slId_ids i hi); have := f85'.len; omega)
  · simpa [ifOk, if_pos hok, hok, pEp] using hfin
  · refine ((o73.slAt.kept f81).fr f150 ?_)
    intro i hi
    have : i ∈ ids x' := by
      cases x' with
      | none => simp [slId] at hi
      | some s => simp [slId] at hi; simp [ids, hi.2]
    have := hidx i this
    simp; omega

end Go.Abs
