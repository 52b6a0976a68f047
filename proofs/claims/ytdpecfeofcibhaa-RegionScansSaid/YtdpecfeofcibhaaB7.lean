/- The reference's image of a page. -/
import Derived.Test.YtdpecfeofcibhaaB6
namespace Go.Abs

theorem bys_replicate_succ (n : Nat) : bys (List.replicate (n + 1) 0) = bys (List.replicate n 0) ++ [.int .u8 0] := by
  rw [bys_zeros, bys_zeros, List.replicate_succ']

theorem depotref23_Image_L0_ok {size : Nat} (h64 : 64 ≤ size) (hs : size ≤ 512) {bs : List UInt8} {h0 : AH} {K : Option Sl → AH → Prop}
    (hk : ∀ x' h', Own h' 1 x' (bys (bs ++ List.replicate (size - 4 - bs.length) 0)) → Fr [] h0 h' → (∀ i ∈ ids x', h0.length ≤ i) → K x' h') :
    ∀ (n k : Nat) (x : Option Sl) (h : AH), bs.length + k + n = size - 4 → Own h 1 x (bys (bs ++ List.replicate k 0)) → Fr [] h0 h → (∀ i ∈ ids x, h0.length ≤ i) → depotref23_Image_L0 (size : Int) x h K
  | 0, k, x, h, hn, o, f, hi => by
    refine depotref23_Image_L0.go ?_
    unfold depotref23_Image_L0w
    have hl : lenO x = bs.length + k := by have := o.slAt.len; simpa using this
    rw [hl, wrap_i64 (by omega) (by omega), br_neg (by omega)]
    obtain rfl : k = size - 4 - bs.length := by omega
    exact hk x h o f hi
  | n + 1, k, x, h, hn, o, f, hi => by
    refine depotref23_Image_L0.go ?_
    unfold depotref23_Image_L0w
    have hl : lenO x = bs.length + k := by have := o.slAt.len; simpa using this
    rw [hl, wrap_i64 (by omega) (by omega), br_pos (by omega)]
    refine new_i fun i72 h71 e71 f71 l71 => ?_
    have hs' : SlAt h71 1 (some ⟨i72, 0, 1, 1, none⟩) [.int .u8 0] := SlAt.made e71 rfl
    refine append_own (bytes := 1) (o.kept f71) (fun K' => aNews_at hs' (by decide) K') (by simp [lenO]) rfl (by show (lenO x + 1) * 1 ≤ _; omega) fun x' h' o' f' i' => ?_
    refine depotref23_Image_L0_ok h64 hs hk n (k + 1) x' h' (by omega) ?_ ((f.trans f71).tr f' hi) fun i hi' => ?_
    · rw [bys_append, bys_replicate_succ, ← List.append_assoc, ← bys_append]
      exact o'
    · rcases i' i hi' with h1 | h1
      · exact hi i h1
      · have := f.len; have := f71.len; omega

theorem wrap_u8_val {k : Nat} : (AV.int .u8 (IntKind.wrap .u8 (k : Int))) = u8 (UInt8.ofNat k) := by rw [wrap_u8_nat]; rfl

theorem depotref23_Image_ok {k p q e g : Int} {x : Option Sl} {l : List UInt8} {size : Int} {h : AH} (hb : By h x l) (hl : l.length < 1000000) {K : Option Sl → Int → AH → Prop}
    (hbad : imgE k p q e g l.length size ≠ 0 → ∀ h', Fr [] h h' → K none (imgE k p q e g l.length size) h')
    (hok : imgE k p q e g l.length size = 0 → ∀ x' h', Own h' 1 x' (bys (image k.toNat p.toNat q.toNat e.toNat g.toNat l size.toNat)) → Fr [] h h' → (∀ i ∈ ids x', h.length ≤ i) → K x' 0 h') :
    depotref23_Image k p q e g x size h K := by
  refine depotref23_Image.go ?_
  unfold depotref23_Imagew
  refine new_i fun i9 h8 e9 f8 l9 => depotref23_sized_ok ?_
  by_cases hs : sizedB size = true
  case neg =>
    have hs' : sizedB size = false := by simpa using hs
    have he : imgE k p q e g l.length size = 2 := by unfold imgE; rw [if_neg hs]
    rw [hs']
    have := hbad (by rw [he]; decide) _ f8
    rw [he] at this
    exact this
  have hs2 := sizedB_iff.1 hs
  rw [hs]
  simp only [Bool.not_true, br_false]
  refine ob_all e9 rfl ?_
  simp only [ints5_eq]
  refine depotref23_right_ok fun h30 f30 => ?_
  have f30' := f8.trans f30
  by_cases hh : headE k p q e g = 0
  case neg =>
    have he : imgE k p q e g l.length size = headE k p q e g := by unfold imgE; rw [if_pos hs, if_neg hh]
    rw [br_ne_neq hh]
    have := hbad (by rw [he]; exact hh) _ f30'
    rw [he] at this
    exact this
  rw [br_ne_eq hh, By.len hb, wrap_i64 (by omega) (by omega)]
  by_cases hn : size - 16 < (l.length : Int)
  · rw [br_pos (by omega)]
    have he : imgE k p q e g l.length size = 4 := by unfold imgE; rw [if_pos hs, if_pos hh, if_pos hn]
    have := hbad (by rw [he]; decide) _ f30'
    rw [he] at this
    exact this
  have he : imgE k p q e g l.length size = 0 := by unfold imgE; rw [if_pos hs, if_pos hh, if_neg hn]
  have hok := hok he
  rw [br_neg (by omega)]
  have hk1 : ¬(k < 1 ∨ 4 < k) := fun hc => by rw [headE_16 hc] at hh; omega
  have hk2 : ¬(q < 1 ∨ 16 < q ∨ p < 0 ∨ q ≤ p ∨ e < 1 ∨ 1073741824 < e ∨ g < 0 ∨ 15 < g) := fun hc => by rw [headE_3 hk1 hc] at hh; omega
  have e9' := f30.kept e9
  simp only [cell_of e9', List.getElem?_cons_zero, List.getElem?_cons_succ, ob_some, chkInt_int]
  obtain ⟨k, rfl⟩ := Int.eq_ofNat_of_zero_le (show 0 ≤ k by omega)
  obtain ⟨p, rfl⟩ := Int.eq_ofNat_of_zero_le (show 0 ≤ p by omega)
  obtain ⟨q, rfl⟩ := Int.eq_ofNat_of_zero_le (show 0 ≤ q by omega)
  obtain ⟨e, rfl⟩ := Int.eq_ofNat_of_zero_le (show 0 ≤ e by omega)
  obtain ⟨g, rfl⟩ := Int.eq_ofNat_of_zero_le (show 0 ≤ g by omega)
  obtain ⟨size, rfl⟩ := Int.eq_ofNat_of_zero_le (show 0 ≤ size by omega)
  simp only [Int.toNat_natCast] at hok
  rw [wrap_u8_val, wrap_u8_val, wrap_u8_val]
  refine new_i fun i39 h38 e38 f38 l38 => ?_
  have f38' := f30'.trans f38
  have e9'' := f38.kept e9'
  simp only [cell_of e9'', List.getElem?_cons_zero, List.getElem?_cons_succ, ob_some, chkInt_int]
  have hb38 : By h38 (some ⟨i39, 0, 4, 4, none⟩) [UInt8.ofNat k, UInt8.ofNat p, UInt8.ofNat q, 165] := SlAt.made e38 rfl
  have p4 : (256 : Nat) ^ 4 = 4294967296 := rfl
  have p2 : (256 : Nat) ^ 2 = 65536 := rfl
  refine depotref03_Put_ok (w := 4) hb38 (by simp) (by omega) (by omega) (by omega) fun r44 h43 o43 f43 i43 => ?_
  have f43' := f38'.trans f43
  have e9 := f43.kept e9''
  simp only [cell_of e9, List.getElem?_cons_zero, List.getElem?_cons_succ, ob_some, chkInt_int]
  rw [wrap_u8_val]
  refine new_i fun i49 h48 e48 f48 l48 => ?_
  have f48' := f43'.trans f48
  have hs48 : SlAt h48 1 (some ⟨i49, 0, 2, 2, none⟩) (bys [UInt8.ofNat g, 0]) := SlAt.made e48 rfl
  have el44 : lenO r44 = 8 := by have := o43.slAt.len; simpa using this
  refine append_own (bytes := 1) (o43.kept f48) (fun K' => aNews_at hs48 (by decide) K') (by simp [lenO]) (bys_scal _) (by show (lenO r44 + 2) * 1 ≤ _; omega) fun s52 h53 o53 f53 i53 => ?_
  have hi43 : ∀ i ∈ ids r44, h.length ≤ i := fun i hi => by have := i43 i hi; have := f38'.len; omega
  have f53' := f48'.tr f53 hi43
  rw [← bys_append] at o53
  refine depotref03_Put_ok (w := 2) o53.slAt (by simp) (by omega) (by omega) (show l.length < _ by omega) fun r56 h55 o55 f55 i55 => ?_
  have f55' := f53'.trans f55
  have el56 : lenO r56 = 12 := by have := o55.slAt.len; simpa using this
  refine append_own (bytes := 1) o55 (fun K' => aNews_at (hb.kept f55') (by decide) K') (by simp [By.len hb]) (bys_scal _) (by rw [By.len hb]; show (lenO r56 + l.length) * 1 ≤ _; omega) fun s60 h61 o61 f61 i61 => ?_
  have hi55 : ∀ i ∈ ids r56, h.length ≤ i := fun i hi => by have := i55 i hi; have := f53'.len; omega
  have f61' := f55'.tr f61 hi55
  have hi61 : ∀ i ∈ ids s60, h.length ≤ i := fun i hi => by
    rcases i61 i hi with h1 | h1
    · exact hi55 i h1
    · have := f55'.len; omega
  rw [← bys_append] at o61
  generalize hbs : [UInt8.ofNat k, UInt8.ofNat p, UInt8.ofNat q, 165] ++ leBytes e 4 ++ [UInt8.ofNat g, 0] ++ leBytes l.length 2 ++ l = bs at o61
  have hbl : bs.length = 12 + l.length := by rw [← hbs]; simp; omega
  refine depotref23_Image_L0_ok (by omega) (by omega) (bs := bs) (h0 := h) (fun x' h' o' f' i' => ?_) (size - 4 - bs.length) 0 s60 h61 (by omega) (by simpa using o61) f61' hi61
  have eb : bs ++ List.replicate (size - 4 - bs.length) 0 = imgBody k p q e g l size := by
    unfold imgBody
    rw [hbs]
    congr 2
    omega
  rw [eb] at o'
  have hbl2 := imgBody_length (k := k) (p := p) (q := q) (e := e) (g := g) (l := l) (size := size) (by omega) (by omega)
  refine depotref04_Sum_ok o'.slAt (by omega) ?_
  refine depotref03_Put_ok (w := 4) o'.slAt (by omega) (by omega) (by omega) (crcSum_lt _) fun r84 h83 o83 f83 i83 => ?_
  exact hok r84 h83 o83 (f'.trans f83) fun i hi => by have := i83 i hi; have := f'.len; omega

end Go.Abs
