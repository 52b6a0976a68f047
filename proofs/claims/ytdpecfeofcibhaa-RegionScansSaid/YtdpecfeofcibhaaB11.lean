/- Kills, and how places and bytes are held against each other. -/
import Derived.Test.YtdpecfeofcibhaaB10
namespace Go.Abs

def pl (l : List UInt8) (k : Nat) : Tri := ((getB (l.drop (6 * k)) 0).toNat, (getB (l.drop (6 * k)) 1).toNat, (leNat (((l.drop (6 * k)).drop 2).take 4) : Nat))
def placesOf (l : List UInt8) : List Tri := (List.range (l.length / 6)).map (pl l)

/-- What a Kills answers. -/
structure KillsK (h0 : AH) (l : List UInt8) (K : Option Sl → Int → AH → Prop) : Prop where
  ok : l.length % 6 = 0 → (placesOf l).all rightB = true → ∀ x' h', Own h' 3 x' (tri (placesOf l)) → Fr [] h0 h' → (∀ i ∈ ids x', h0.length ≤ i) → K x' 0 h'
  bad : ¬(l.length % 6 = 0 ∧ (placesOf l).all rightB = true) → ∀ h', Fr [] h0 h' → K none 5 h'

theorem pl_mem {l : List UInt8} {k : Nat} (hk : k < l.length / 6) : pl l k ∈ placesOf l := List.mem_map.2 ⟨k, List.mem_range.2 hk, rfl⟩

theorem placesOf_take {l : List UInt8} {k : Nat} (hk : k < l.length / 6) : (List.range (k + 1)).map (pl l) = (List.range k).map (pl l) ++ [pl l k] := by rw [List.range_succ, List.map_append]; rfl

theorem region_Kills_L0_ok {l : List UInt8} (hl : l.length < 100000) {h0 : AH} {Kr K0 : AV → AV → Option Sl → AH → Prop}
    (hk : (placesOf l).all rightB = true → ∀ x' h', Own h' 3 x' (tri (placesOf l)) → Fr [] h0 h' → (∀ i ∈ ids x', h0.length ≤ i) → K0 .bot .bot x' h')
    (hbad : (placesOf l).all rightB = false → ∀ x' h', Fr [] h0 h' → Kr (.slice none) (.int .i64 5) x' h') :
    ∀ (n k : Nat) (x z : Option Sl) (h : AH), 6 * (k + n) = l.length → ((List.range k).map (pl l)).all rightB = true → Fr [] h0 h → Own h 3 x (tri ((List.range k).map (pl l))) → (∀ i ∈ ids x, h0.length ≤ i) → By h0 z (l.drop (6 * k)) → region_Kills_L0 x z h Kr K0
  | 0, k, x, z, h, hn, hv, f, o, hi, hb0 => by
    have hb := hb0.kept f
    refine region_Kills_L0.go ?_
    unfold region_Kills_L0w
    rw [By.len hb, br_neg (by simp; omega)]
    have : placesOf l = (List.range k).map (pl l) := by unfold placesOf; rw [show l.length / 6 = k by omega]
    rw [← this] at o hv
    exact hk hv x h o f hi
  | n + 1, k, x, z, h, hn, hv, f, o, hi, hb0 => by
    have hb := hb0.kept f
    have hlen : (l.drop (6 * k)).length = 6 * (n + 1) := by simp; omega
    have hz := By.len hb
    obtain ⟨s, rfl⟩ : ∃ s, z = some s := by
      cases z with
      | none => simp [lenO] at hz; omega
      | some s => exact ⟨s, rfl⟩
    refine region_Kills_L0.go ?_
    unfold region_Kills_L0w
    rw [hz, hlen, br_pos (by omega)]
    refine wire_Get_ok (a := 2) (w := 4) hb (by omega) (by omega) (by omega) (by omega) ?_
    refine hold_i fun h18 f18 u18 => ?_
    simp only [ob_some]
    have hb18 := hb.kept f18
    refine byte_i hb18 0 rfl (by omega) (byte_i hb18 1 rfl (by omega) ?_)
    refine birth_i (u18 0 (by omega)) fun h25 e25 f25 => put_i e25 rfl fun h26 e26 f26 => ob_all e26 rfl ?_
    simp only [wrap_u8i64, ints3_eq]
    have f25' := f18.tr f25 (by simp)
    have f26' := f25'.tr f26 (by simp)
    refine region_right_ok fun h32 f32 => ?_
    have f32' := f26'.trans f32
    have hmem : pl l k ∈ placesOf l := pl_mem (by omega)
    show br (!rightB (pl l k)) _ _
    by_cases hr : rightB (pl l k) = true
    case neg =>
      have hr' : rightB (pl l k) = false := by simpa using hr
      rw [hr']
      refine hbad ?_ _ _ (f.trans f32')
      rw [List.all_eq_false]; exact ⟨_, hmem, hr⟩
    rw [hr]
    simp only [Bool.not_true, br_false]
    refine ob_all (f32.kept e26) rfl ?_
    simp only [wrap_u8i64, ints3_eq]
    refine new_i fun i39 h38 e38 f38 l38 => ?_
    have f38' := f32'.trans f38
    have hs38 : SlAt h38 3 (some ⟨i39, 0, 1, 1, none⟩) (tri [pl l k]) := SlAt.made e38 rfl
    have el : lenO x = k := by have := tri_len o.slAt; simpa using this
    refine append_own (bytes := 24) (o.kept f38') (fun K' => aNews_at hs38 (by decide) K') (by simp [lenO]) (tri_scal _) (by show (lenO x + 1) * 24 ≤ _; omega) fun x' h43 o43 f43 i43 => ?_
    rw [← tri_append, ← placesOf_take (by omega)] at o43
    refine need_i (by omega) (guardR_i hb.cutOk ?_)
    have hcut := By.cut hb0 (i := 6) (j := 6 * (n + 1)) (by omega) (by omega)
    have ecut : ((l.drop (6 * k)).drop 6).take (6 * (n + 1) - 6) = l.drop (6 * (k + 1)) := by
      rw [List.drop_drop, show 6 * k + 6 = 6 * (k + 1) by omega, List.take_of_length_le (by simp; omega)]
    rw [ecut] at hcut
    refine region_Kills_L0_ok hl hk hbad n (k + 1) x' _ h43 (by omega) ?_ ((f.trans f38').tr f43 hi) o43 (fun i hm => ?_) hcut
    · rw [placesOf_take (by omega), List.all_append, hv]; simpa using hr
    · rcases i43 i hm with h1 | h1
      · exact hi i h1
      · have := f.len; have := f38'.len; omega

theorem region_Kills_ok {l : List UInt8} (hl : l.length < 100000) {z : Option Sl} {h : AH} (hb : By h z l) {K : Option Sl → Int → AH → Prop} (hk : KillsK h l K) : region_Kills z h K := by
  refine region_Kills.go ?_
  unfold region_Killsw
  have e : Int.tmod ((lenO z : Nat) : Int) 6 = ((l.length % 6 : Nat) : Int) := by rw [By.len hb, Int.tmod_eq_emod_of_nonneg (by omega)]; omega
  rw [e]
  refine br_ine (fun h0 => hk.bad (by omega) h (.refl _ _)) fun h0 => ?_
  refine region_Kills_L0_ok hl (fun hv x' h' o f i => hk.ok (by omega) hv x' h' o f i) (fun hv x' h' f => hk.bad (fun hc => by rw [hc.2] at hv; cases hv) h' f) (l.length / 6) 0 none z h (by omega) (by simp) (.refl _ _) rfl (by simp [ids]) (by simpa using hb)

theorem depotref25_Kills_L0_ok {l : List UInt8} (hl : l.length < 100000) {z : Option Sl} {h0 : AH} (hb0 : By h0 z l) {K0 : Option Sl → AH → Prop}
    (hk : ∀ x' h', Own h' 3 x' (tri (placesOf l)) → Fr [] h0 h' → (∀ i ∈ ids x', h0.length ≤ i) → K0 x' h') :
    ∀ (n k : Nat) (x : Option Sl) (h : AH), 6 * (k + n) = l.length → Fr [] h0 h → Own h 3 x (tri ((List.range k).map (pl l))) → (∀ i ∈ ids x, h0.length ≤ i) → depotref25_Kills_L0 z x ((6 * k : Nat) : Int) h K0
  | 0, k, x, h, hn, f, o, hi => by
    refine depotref25_Kills_L0.go ?_
    unfold depotref25_Kills_L0w
    rw [By.len hb0, br_neg (by omega)]
    have : placesOf l = (List.range k).map (pl l) := by unfold placesOf; rw [show l.length / 6 = k by omega]
    rw [← this] at o
    exact hk x h o f hi
  | n + 1, k, x, h, hn, f, o, hi => by
    have hb := hb0.kept f
    have hz := By.len hb
    obtain ⟨s, rfl⟩ : ∃ s, z = some s := by
      cases z with
      | none => simp [lenO] at hz; omega
      | some s => exact ⟨s, rfl⟩
    refine depotref25_Kills_L0.go ?_
    unfold depotref25_Kills_L0w
    have e1 : IntKind.wrap .i64 (((6 * k : Nat) : Int) + 1) = ((6 * k + 1 : Nat) : Int) := by rw [wrap_i64 (by omega) (by omega)]; omega
    have e2 : IntKind.wrap .i64 (((6 * k : Nat) : Int) + 2) = ((6 * k + 2 : Nat) : Int) := by rw [wrap_i64 (by omega) (by omega)]; omega
    have e6 : IntKind.wrap .i64 (((6 * k : Nat) : Int) + 6) = ((6 * (k + 1) : Nat) : Int) := by rw [wrap_i64 (by omega) (by omega)]; omega
    rw [hz, br_pos (by omega), e1, e2, e6]
    refine depotref03_Get_ok (w := 4) hb (by omega) (by omega) (by omega) (by omega) ?_
    refine hold_i fun h18 f18 u18 => ?_
    simp only [ob_some]
    have hb18 := hb.kept f18
    refine byte_i hb18 (6 * k) rfl (by omega) (byte_i hb18 (6 * k + 1) rfl (by omega) ?_)
    refine birth_i (u18 0 (by omega)) fun h25 e25 f25 => ?_
    simp only [wrap_u8i64] at e25
    have f25' := f18.tr f25 (by simp)
    have hpl : pl l k = (((getB l (6 * k)).toNat : Int), ((getB l (6 * k + 1)).toNat : Int), ((leNat ((l.drop (6 * k + 2)).take 4) : Nat) : Int)) := by
      have g0 : getB (l.drop (6 * k)) 0 = getB l (6 * k) := by simp [getB]
      have g1 : getB (l.drop (6 * k)) 1 = getB l (6 * k + 1) := by simp [getB]
      unfold pl
      rw [g0, g1, List.drop_drop]
    have hs25 : SlAt h25 3 (some ⟨h.length + 0, 0, 1, 1, none⟩) (tri [pl l k]) := by rw [hpl]; exact SlAt.made e25 rfl
    have el : lenO x = k := by have := tri_len o.slAt; simpa using this
    refine append_own (bytes := 24) (o.kept f25') (fun K' => aNews_at hs25 (by decide) K') (by simp [lenO]) (tri_scal _) (by show (lenO x + 1) * 24 ≤ _; omega) fun x' h43 o43 f43 i43 => ?_
    rw [← tri_append, ← placesOf_take (by omega)] at o43
    refine depotref25_Kills_L0_ok hl hb0 hk n (k + 1) x' h43 (by omega) ((f.trans f25').tr f43 hi) o43 (fun i hm => ?_)
    rcases i43 i hm with h1 | h1
    · exact hi i h1
    · have := f.len; have := f25'.len; omega

theorem depotref25_Kills_ok {l : List UInt8} (hl : l.length ≤ 6000) {z : Option Sl} {h : AH} (hb : By h z l) {K : Option Sl → Int → AH → Prop} (hk : KillsK h l K) : depotref25_Kills z h K := by
  refine depotref25_Kills.go ?_
  unfold depotref25_Killsw
  have e : Int.tmod ((lenO z : Nat) : Int) 6 = ((l.length % 6 : Nat) : Int) := by rw [By.len hb, Int.tmod_eq_emod_of_nonneg (by omega)]; omega
  rw [e]
  refine br_ine (fun h0 => hk.bad (by omega) h (.refl _ _)) fun h0 => ?_
  refine depotref25_Kills_L0_ok (by omega) hb (fun x' h' o f i => ?_) (l.length / 6) 0 none h (by omega) (.refl _ _) rfl (by simp [ids])
  refine depotref25_KillLoad_ok (by unfold placesOf; simp; omega) o.slAt ⟨fun hv x'' h'' o'' f'' i'' => ?_, fun hv h'' f'' => ?_⟩
  · rw [br_ne_eq rfl]
    exact hk.ok (by omega) hv x' h'' (o.kept f'') (f.trans f'') i
  · rw [br_ne_neq (by decide)]
    exact hk.bad (fun hc => by rw [hc.2] at hv; cases hv) h'' (f.trans f'')

/-! What was put is got. -/

theorem placesOf_killBytes {L : List Tri} (hv : L.all rightB = true) : placesOf (killBytes L) = L := by
  have key : ∀ (L : List Tri) (k : Nat) (hk : k < L.length), L.all rightB = true → pl (killBytes L) k = L[k] := by
    intro L
    induction L with
    | nil => intro k hk; simp at hk
    | cons a L ih =>
      intro k hk hv
      rw [List.all_cons, Bool.and_eq_true] at hv
      have hr := rightB_iff.1 hv.1
      have ed : killBytes (a :: L) = ([UInt8.ofNat a.1.toNat, UInt8.ofNat a.2.1.toNat] ++ leBytes a.2.2.toNat 4) ++ killBytes L := rfl
      cases k with
      | zero =>
        obtain ⟨a1, a2, a3⟩ := a
        simp only at hr ed
        unfold pl
        rw [ed]
        simp only [Nat.mul_zero, List.drop_zero, List.getElem_cons_zero, Prod.mk.injEq]
        refine ⟨?_, ?_, ?_⟩
        · show ((UInt8.ofNat a1.toNat).toNat : Int) = _
          rw [UInt8.toNat_ofNat']; omega
        · show ((UInt8.ofNat a2.toNat).toNat : Int) = _
          rw [UInt8.toNat_ofNat']; omega
        · have : ((([UInt8.ofNat a1.toNat, UInt8.ofNat a2.toNat] ++ leBytes a3.toNat 4) ++ killBytes L).drop 2).take 4 = leBytes a3.toNat 4 := by
            show ((leBytes a3.toNat 4) ++ killBytes L).take 4 = _
            exact List.take_left' (by simp)
          rw [this, leNat_leBytes _ 4 (show _ < 4294967296 by omega)]; omega
      | succ k =>
        have hk' : k < L.length := by simpa using hk
        have := ih k hk' hv.2
        rw [List.getElem_cons_succ, ← this]
        unfold pl
        have e6 : (killBytes (a :: L)).drop (6 * (k + 1)) = (killBytes L).drop (6 * k) := by
          rw [ed, show 6 * (k + 1) = 6 + 6 * k by omega, ← List.drop_drop, List.drop_left' (by simp)]
        rw [e6]
  unfold placesOf
  refine List.ext_getElem (by simp [killBytes_length]) fun k h1 h2 => ?_
  simp only [List.getElem_map, List.getElem_range]
  exact key L k h2 hv

/-! Places, bytes -/

theorem depotref25_Places_L0_ok {A B : List Tri} (hl : A.length = B.length) (hA : A.length < 100000) {x y : Option Sl} {h : AH} (hx : SlAt h 3 x (tri A)) (hy : SlAt h 3 y (tri B)) {Kr K0 : AV → AH → Prop} (h1 : A ≠ B → Kr (.bool false) h) (h2 : A = B → K0 .bot h) :
    ∀ (n k : Nat), k + n = A.length → A.take k = B.take k → depotref25_Places_L0 x y (k : Int) h Kr K0
  | 0, k, hn, he => by
    refine depotref25_Places_L0.go ?_
    unfold depotref25_Places_L0w
    rw [tri_len hx, br_neg (by omega)]
    rw [List.take_of_length_le (by omega), List.take_of_length_le (by omega)] at he
    exact h2 he
  | n + 1, k, hn, he => by
    have hlt : k < A.length := by omega
    have hlt2 : k < B.length := by omega
    have lx := tri_len hx
    have ly := tri_len hy
    obtain ⟨s, rfl⟩ : ∃ s, x = some s := by
      cases x with
      | none => simp [lenO] at lx; omega
      | some s => exact ⟨s, rfl⟩
    obtain ⟨t, rfl⟩ : ∃ s, y = some s := by
      cases y with
      | none => simp [lenO] at ly; omega
      | some s => exact ⟨s, rfl⟩
    refine depotref25_Places_L0.go ?_
    unfold depotref25_Places_L0w
    rw [lx, br_pos (by omega)]
    refine hold0_i ?_
    simp only [ob_some]
    refine tri_i hx k rfl hlt (tri_i hy k rfl hlt2 ?_)
    rw [wrap_i64 (by omega) (by omega)]
    by_cases hc : A[k] = B[k]
    · have e : (A[k].1 == B[k].1 && (A[k].2.1 == B[k].2.1 && (A[k].2.2 == B[k].2.2 && true))) = true := by rw [hc]; simp
      rw [e]
      refine depotref25_Places_L0_ok hl hA hx hy h1 h2 n (k + 1) (by omega) ?_
      rw [List.take_add_one, List.take_add_one, he, List.getElem?_eq_getElem hlt, List.getElem?_eq_getElem hlt2, hc]
    · have e : (A[k].1 == B[k].1 && (A[k].2.1 == B[k].2.1 && (A[k].2.2 == B[k].2.2 && true))) = false := by
        rw [← Bool.not_eq_true]; intro h; simp at h; exact hc (Prod.ext h.1 (Prod.ext h.2.1 h.2.2))
      rw [e]
      refine h1 fun hab => hc ?_
      subst hab; rfl

theorem depotref25_Places_ok {A B : List Tri} (hA : A.length < 100000) {x y : Option Sl} {h : AH} (hx : SlAt h 3 x (tri A)) (hy : SlAt h 3 y (tri B)) {K : Bool → AH → Prop} (hk : K (decide (A = B)) h) : depotref25_Places x y h K := by
  refine depotref25_Places.go ?_
  unfold depotref25_Placesw
  rw [tri_len hx, tri_len hy]
  refine br_ine (fun hne => ?_) fun heq => ?_
  · rwa [decide_eq_false (fun h => hne (by rw [h]))] at hk
  · refine depotref25_Places_L0_ok (by omega) hA hx hy (fun h => ?_) (fun h => ?_) A.length 0 (by omega) (by simp)
    · rw [decide_eq_false h] at hk; exact hk
    · rw [decide_eq_true h] at hk; exact hk

theorem depotref03_Same_ok {a b : List UInt8} {x y : Option Sl} {h : AH} (hx : By h x a) (hy : By h y b) {K : Bool → AH → Prop} (hk : K (decide (a = b)) h) : depotref03_Same x y h K := by
  refine depotref03_Same.go ?_
  unfold depotref03_Samew
  obtain ⟨q1, e1⟩ := aBytes_by hx (fun q3 y4 => aBytes h y fun q5 y6 => K (y4 == y6) h)
  obtain ⟨q2, e2⟩ := aBytes_by hy (fun q5 y6 => K (a == y6) h)
  refine e1.mpr (e2.mpr ?_)
  have : (a == b) = decide (a = b) := by
    by_cases h : a = b
    · subst h; simp
    · rw [decide_eq_false h, beq_eq_false_iff_ne]; exact h
  rw [this]; exact hk

end Go.Abs
