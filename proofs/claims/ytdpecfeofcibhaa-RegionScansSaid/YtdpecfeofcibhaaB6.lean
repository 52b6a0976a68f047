/- A page's image: both texts come to it. -/
import Derived.Test.YtdpecfeofcibhaaB5
namespace Go.Abs

def imgBody (k p q e g : Nat) (l : List UInt8) (size : Nat) : List UInt8 :=
  [UInt8.ofNat k, UInt8.ofNat p, UInt8.ofNat q, 165] ++ leBytes e 4 ++ [UInt8.ofNat g, 0] ++ leBytes l.length 2 ++ l ++ List.replicate (size - 16 - l.length) 0
def image (k p q e g : Nat) (l : List UInt8) (size : Nat) : List UInt8 := imgBody k p q e g l size ++ leBytes (crcSum (imgBody k p q e g l size)) 4
/-- What is wrong with a page that is to be made. -/
def imgE (k p q e g : Int) (n : Nat) (size : Int) : Int :=
  if sizedB size = true then (if headE k p q e g = 0 then (if size - 16 < (n : Int) then 4 else 0) else headE k p q e g) else 2

theorem imgBody_length {k p q e g : Nat} {l : List UInt8} {size : Nat} (hs : 64 ≤ size) (hl : l.length ≤ size - 16) : (imgBody k p q e g l size).length = size - 4 := by
  simp [imgBody]; omega
theorem image_length {k p q e g : Nat} {l : List UInt8} {size : Nat} (hs : 64 ≤ size) (hl : l.length ≤ size - 16) : (image k p q e g l size).length = size := by
  unfold image
  rw [List.length_append, imgBody_length hs hl, leBytes_length]; omega

theorem leBytes_1 (k : Nat) : leBytes k 1 = [UInt8.ofNat k] := by simp [leBytes, byteAt, List.range_succ]

def numCells (L : List (Nat × Nat)) : List AV := L.flatMap fun a => [.int .i64 (a.1 : Int), .int .i64 (a.2 : Int)]
def enc (L : List (Nat × Nat)) : List UInt8 := L.flatMap fun a => leBytes a.1 a.2
theorem numCells_length (L : List (Nat × Nat)) : (numCells L).length = L.length * 2 := by
  unfold numCells
  induction L with
  | nil => rfl
  | cons a L ih => rw [List.flatMap_cons, List.length_append, ih]; simp; omega
theorem enc_append (a b : List (Nat × Nat)) : enc (a ++ b) = enc a ++ enc b := by simp [enc]
theorem numCells_drop : ∀ (L : List (Nat × Nat)) (k : Nat) (hk : k < L.length), ((numCells L).drop (k * 2)).take 2 = [.int .i64 (L[k].1 : Int), .int .i64 (L[k].2 : Int)]
  | a :: L, 0, _ => rfl
  | a :: L, k + 1, hk => by
    have := numCells_drop L k (by simpa using hk)
    rw [show (k + 1) * 2 = k * 2 + 1 + 1 by omega]
    exact this

theorem page_put_L0_ok {L : List (Nat × Nat)} (hv : ∀ a ∈ L, 1 ≤ a.2 ∧ a.2 ≤ 7 ∧ a.1 < 256 ^ a.2) (h0L : L ≠ []) {x4 : Option Sl} {h0 : AH} (h4 : SlAt h0 2 x4 (numCells L)) {bs : List UInt8} (hbs : bs.length < 100000) (hL : L.length ≤ 100) {K : Option Sl → AH → Prop}
    (hk : ∀ x' h', Own h' 1 x' (bys (bs ++ enc L)) → Fr [] h0 h' → (∀ i ∈ ids x', h0.length ≤ i) → K x' h') :
    ∀ (n k : Nat) (x : Option Sl) (h : AH), k + n = L.length → Fr [] h0 h → By h x (bs ++ enc (L.take k)) → (enc (L.take k)).length ≤ 7 * k → (0 < k → Own h 1 x (bys (bs ++ enc (L.take k))) ∧ ∀ i ∈ ids x, h0.length ≤ i) → page_put_L0 x x4 (L.length : Int) (k : Int) h K
  | 0, k, x, h, hn, f, hb, hl, ho => by
    refine page_put_L0.go ?_
    unfold page_put_L0w
    rw [br_neg (by omega)]
    have hp : 0 < k := by cases L with
      | nil => exact absurd rfl h0L
      | cons a L => simp at hn; omega
    obtain ⟨o, hi⟩ := ho hp
    rw [List.take_of_length_le (by omega)] at o
    exact hk x h o f hi
  | n + 1, k, x, h, hn, f, hb, hl, ho => by
    have hlt : k < L.length := by omega
    have h4' := h4.kept f
    have hlen := h4'.len
    rw [numCells_length] at hlen
    obtain ⟨s, rfl⟩ : ∃ s, x4 = some s := by
      cases x4 with
      | none => simp [lenO] at hlen; omega
      | some s => exact ⟨s, rfl⟩
    have hlen : s.len = L.length := by simp [lenO] at hlen; omega
    refine page_put_L0.go ?_
    unfold page_put_L0w
    rw [br_pos (by omega)]
    simp only [ob_some, Int.toNat_natCast]
    rw [need_true (by omega), h4'.sub (by omega) (by rw [numCells_length]; omega), numCells_drop L k hlt]
    simp only [ob_some, ints2_eq]
    obtain ⟨v1, v7, vm⟩ := hv L[k] (List.getElem_mem hlt)
    refine new_i fun i23 h22 e22 f22 l22 => put_i e22 rfl fun h24 e24 f24 => ?_
    simp only [cell_of e24, List.getElem?_cons_zero, List.getElem?_cons_succ, ob_some, chkInt_int]
    have f24' : Fr [] h h24 := f22.tr f24 (by simpa using l22)
    refine wire_Put_ok (hb.kept f24') (by simp; omega) v1 v7 vm fun x' h' o' f' i' => ?_
    rw [wrap_i64 (by omega) (by omega)]
    have e : L.take (k + 1) = L.take k ++ [L[k]] := by rw [List.take_add_one, List.getElem?_eq_getElem hlt]; rfl
    have o'' : Own h' 1 x' (bys (bs ++ enc (L.take (k + 1)))) := by
      rw [e, enc_append, ← List.append_assoc]
      simpa [enc] using o'
    refine page_put_L0_ok hv h0L h4 hbs hL hk n (k + 1) x' h' (by omega) ((f.trans f24').trans f') o''.slAt ?_ fun _ => ⟨o'', fun i hi => ?_⟩
    · rw [e, enc_append, List.length_append]
      simp [enc] at hl ⊢
      omega
    · have := i' i hi; have := f.len; have := f24'.len; omega

theorem page_put_ok {L : List (Nat × Nat)} (hv : ∀ a ∈ L, 1 ≤ a.2 ∧ a.2 ≤ 7 ∧ a.1 < 256 ^ a.2) (h0L : L ≠ []) {x x4 : Option Sl} {h : AH} (h4 : SlAt h 2 x4 (numCells L)) {bs : List UInt8} (hb : By h x bs) (hbs : bs.length < 100000) (hL : L.length ≤ 100) {K : Option Sl → AH → Prop}
    (hk : ∀ x' h', Own h' 1 x' (bys (bs ++ enc L)) → Fr [] h h' → (∀ i ∈ ids x', h.length ≤ i) → K x' h') : page_put x x4 h K := by
  refine page_put.go ?_
  unfold page_putw
  have e : lenO x4 = L.length := by have := h4.len; rw [numCells_length] at this; omega
  rw [e]
  exact page_put_L0_ok hv h0L h4 hbs hL (K := fun u h => K u h) hk L.length 0 x h (by omega) (.refl _ _) (by simpa [enc] using hb) (by simp [enc]) (by omega)

theorem repZero_eq (z : AV) : ∀ n, repZero [z] n = List.replicate n z
  | 0 => rfl
  | n + 1 => by simp [repZero, repZero_eq z n, List.replicate_succ]

theorem bys_zeros (n : Nat) : bys (List.replicate n 0) = List.replicate n (.int .u8 0) := by
  unfold bys; rw [List.map_replicate]; rfl

theorem page_Image_ok {k p q e g : Int} {x : Option Sl} {l : List UInt8} {size : Int} {h : AH} (hb : By h x l) (hl : l.length < 1000000) {K : Option Sl → Int → AH → Prop}
    (hbad : imgE k p q e g l.length size ≠ 0 → ∀ h', Fr [] h h' → K none (imgE k p q e g l.length size) h')
    (hok : imgE k p q e g l.length size = 0 → ∀ x' h', Own h' 1 x' (bys (image k.toNat p.toNat q.toNat e.toNat g.toNat l size.toNat)) → Fr [] h h' → (∀ i ∈ ids x', h.length ≤ i) → K x' 0 h') :
    page_Image k p q e g x size h K := by
  refine page_Image.go ?_
  unfold page_Imagew
  refine new_i fun i9 h8 e9 f8 l9 => page_sized_ok ?_
  by_cases hs : sizedB size = true
  case neg =>
    have hs' : sizedB size = false := by simpa using hs
    have he : imgE k p q e g l.length size = 2 := by unfold imgE; rw [if_neg hs]
    rw [hs']
    have := hbad (by rw [he]; decide) _ f8
    rw [he] at this
    exact this
  have hs2 := sizedB_iff.1 hs
  rw [hs]
  simp only [Bool.not_true, br_false]
  refine ob_all e9 rfl ?_
  simp only [ints5_eq]
  refine page_check_ok fun h30 f30 => ?_
  have f30' := f8.trans f30
  by_cases hh : headE k p q e g = 0
  case neg =>
    have he : imgE k p q e g l.length size = headE k p q e g := by unfold imgE; rw [if_pos hs, if_neg hh]
    rw [br_ne_neq hh]
    have := hbad (by rw [he]; exact hh) _ f30'
    rw [he] at this
    exact this
  rw [br_ne_eq hh]
  refine page_Room_ok hs ?_
  rw [By.len hb]
  by_cases hn : size - 16 < (l.length : Int)
  · rw [br_pos (by omega)]
    have he : imgE k p q e g l.length size = 4 := by unfold imgE; rw [if_pos hs, if_pos hh, if_pos hn]
    have := hbad (by rw [he]; decide) _ f30'
    rw [he] at this
    exact this
  have he : imgE k p q e g l.length size = 0 := by unfold imgE; rw [if_pos hs, if_pos hh, if_neg hn]
  have hok := hok he
  rw [br_neg (by omega)]
  have hk1 : ¬(k < 1 ∨ 4 < k) := fun hc => by rw [headE_16 hc] at hh; omega
  have hk2 : ¬(q < 1 ∨ 16 < q ∨ p < 0 ∨ q ≤ p ∨ e < 1 ∨ 1073741824 < e ∨ g < 0 ∨ 15 < g) := fun hc => by rw [headE_3 hk1 hc] at hh; omega
  have e9' := f30.kept e9
  simp only [cell_of e9', List.getElem?_cons_zero, List.getElem?_cons_succ, ob_some, chkInt_int]
  obtain ⟨k, rfl⟩ := Int.eq_ofNat_of_zero_le (show 0 ≤ k by omega)
  obtain ⟨p, rfl⟩ := Int.eq_ofNat_of_zero_le (show 0 ≤ p by omega)
  obtain ⟨q, rfl⟩ := Int.eq_ofNat_of_zero_le (show 0 ≤ q by omega)
  obtain ⟨e, rfl⟩ := Int.eq_ofNat_of_zero_le (show 0 ≤ e by omega)
  obtain ⟨g, rfl⟩ := Int.eq_ofNat_of_zero_le (show 0 ≤ g by omega)
  obtain ⟨size, rfl⟩ := Int.eq_ofNat_of_zero_le (show 0 ≤ size by omega)
  simp only [Int.toNat_natCast] at hok
  refine new_i fun i46 h45 e45 f45 l45 => ?_
  have f45' := f30'.trans f45
  have hs45 : SlAt h45 2 (some ⟨i46, 0, 8, 8, none⟩) (numCells [(k, 1), (p, 1), (q, 1), (165, 1), (e, 4), (g, 1), (0, 1), (l.length, 2)]) := SlAt.made e45 rfl
  refine page_put_ok (bs := []) ?_ (by simp) hs45 (show By h45 none [] from rfl) (by simp) (by simp) fun r49 h48 o49 f48 i49 => ?_
  · have : (256 : Nat) ^ 4 = 4294967296 := rfl
    have : (256 : Nat) ^ 2 = 65536 := rfl
    simp
    omega
  have f48' := f45'.trans f48
  have ew : IntKind.wrap .i64 ((size : Int) - 4) = ((size - 4 : Nat) : Int) := by rw [wrap_i64 (by omega) (by omega)]; omega
  simp only [ew, Int.toNat_natCast]
  rw [need_true (by omega)]
  have etop : enc [(k, 1), (p, 1), (q, 1), (165, 1), (e, 4), (g, 1), (0, 1), (l.length, 2)] = [UInt8.ofNat k, UInt8.ofNat p, UInt8.ofNat q, 165] ++ leBytes e 4 ++ [UInt8.ofNat g, 0] ++ leBytes l.length 2 := by
    simp only [enc, List.flatMap_cons, List.flatMap_nil, leBytes_1, List.append_nil, List.append_assoc, List.cons_append, List.nil_append]
    rfl
  rw [List.nil_append, etop] at o49
  refine new_i fun i51 h50 e50 f50 l50 => ?_
  have f50' := f48'.trans f50
  rw [repZero_eq] at e50
  simp only [lt_eq]
  have el49 : lenO r49 = 12 := by have := o49.slAt.len; simpa using this
  rw [aNews_at (o49.slAt.kept f50) (by decide), bys_scal, el49]
  simp only [guardR_true]
  have emin : min 12 (size - 4) = 12 := by omega
  have emini : min ((12 : Nat) : Int) ((size - 4 : Nat) : Int) = ((12 : Nat) : Int) := by omega
  simp only [emin, emini]
  rw [if_neg (by decide)]
  generalize htop : [UInt8.ofNat k, UInt8.ofNat p, UInt8.ofNat q, 165] ++ leBytes e 4 ++ [UInt8.ofNat g, 0] ++ leBytes l.length 2 = top at o49
  have hltop : top.length = 12 := by rw [← htop]; simp
  refine puts_i e50 (by simp [hltop]; omega) fun h55 e55 f55 => ?_
  have f55' := f50'.tr f55 (by have := f48'.len; simp; omega)
  rw [need_true (by omega)]
  have ecut : Sl.cutOk 1 ⟨i51, 0, size - 4, size - 4, none⟩ = true := rfl
  rw [ecut]
  simp only [guardR_true, Int.toNat_natCast]
  have ecut2 : Sl.cut 1 12 (size - 4) ⟨i51, 0, size - 4, size - 4, none⟩ = ⟨i51, 12, size - 16, size - 16, none⟩ := by
    unfold Sl.cut
    simp only [if_true, if_neg (show ¬(size - 4 = 12) by omega), Sl.mk.injEq, true_and, and_true]
    omega
  rw [ecut2, aNews_at (hb.kept f55') (by decide), bys_scal, By.len hb]
  simp only [guardR_true]
  have emin2 : min l.length (size - 16) = l.length := by omega
  have et12 : (bys top).take (12 * 1) = bys top := List.take_of_length_le (by simp [hltop])
  rw [emin2]
  -- what the block holds behind both copies
  have key : ∀ h61, h61[i51]? = some (.cells (bys (imgBody k p q e g l size)) false) → Fr [] h h61 →
      crc_Sum (some ⟨i51, 0, size - 4, size - 4, none⟩) h61 fun r66 h65 =>
        new h65 (.cells [.int .i64 r66, .int .i64 4] false) fun i68 h67 =>
        page_put (some ⟨i51, 0, size - 4, size - 4, none⟩) (some ⟨i68, 0, 1, 1, none⟩) h67 fun r71 h70 => K r71 0 h70 := by
    intro h61 e61 f61
    have hbl := imgBody_length (k := k) (p := p) (q := q) (e := e) (g := g) (l := l) (size := size) (by omega) (by omega)
    have hby : By h61 (some ⟨i51, 0, size - 4, size - 4, none⟩) (imgBody k p q e g l size) := SlAt.made e61 (by simp [hbl])
    refine crc_Sum_ok hby (by omega) ?_
    refine new_i fun i68 h67 e67 f67 _ => ?_
    have hs67 : SlAt h67 2 (some ⟨i68, 0, 1, 1, none⟩) (numCells [(crcSum (imgBody k p q e g l size), 4)]) := SlAt.made e67 rfl
    refine page_put_ok (by simpa using crcSum_lt _) (by simp) hs67 (hby.kept f67) (by omega) (by simp) fun x' h' o' f' i' => ?_
    refine hok x' h' ?_ ((f61.trans f67).trans f') fun i hi => ?_
    · simpa [image, enc] using o'
    · have := i' i hi; have := f61.len; have := f67.len; omega
  have eblk : ∀ z : List AV, z = bys top ++ bys l ++ List.replicate (size - 16 - l.length) (.int .u8 0) → z = bys (imgBody k p q e g l size) := by
    intro z hz
    rw [hz, imgBody, htop, bys_append, bys_append, bys_zeros]
  have e55' : h55[i51]? = some (.cells (bys top ++ List.replicate (size - 16) (.int .u8 0)) false) := by
    rw [e55, et12, List.take_zero, List.nil_append, List.drop_replicate]
    simp only [bys_length, hltop]
    congr 4
  by_cases h0 : l.length = 0
  · rw [if_pos h0]
    simp only [ob_some]
    refine key h55 ?_ f55'
    rw [e55']
    congr 2
    obtain rfl := List.length_eq_zero_iff.1 h0
    exact eblk _ (by simp)
  · rw [if_neg h0]
    refine puts_i e55' (by simp [hltop]; omega) fun h61 e61 f61 => ?_
    refine key h61 ?_ (f55'.tr f61 (by have := f48'.len; simp; omega))
    rw [e61]
    congr 2
    refine eblk _ ?_
    have a1 : (bys top ++ List.replicate (size - 16) (AV.int .u8 0)).take 12 = bys top := by
      rw [List.take_append_of_le_length (by simp [hltop]), List.take_of_length_le (by simp [hltop])]
    have a2 : (bys l).take (l.length * 1) = bys l := List.take_of_length_le (by simp)
    have a3 : (bys top ++ List.replicate (size - 16) (AV.int .u8 0)).drop (12 + l.length) = List.replicate (size - 16 - l.length) (.int .u8 0) := by
      rw [List.drop_append, List.drop_of_length_le (by simp [hltop]), List.nil_append, List.drop_replicate]
      simp only [bys_length, hltop]
      congr 1
      omega
    rw [a2, a1, bys_length, a3]

end Go.Abs
