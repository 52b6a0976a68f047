/- Regions are written and loaded. -/
import Derived.Test.YtdpecfeofcibhaaB15
namespace Go.Abs

/-- A block that has nothing to do with a device. -/
structure Out (h : AH) (L : FL) (i : Nat) : Prop where
  fp : i ∉ L.fp
  rd : i ∉ L.rd
  lt : i < h.length
theorem Out.new {h : AH} {L : FL} {F : FS} (a : FRep h L F) {i : Nat} {h' : AH} (hi : h.length ≤ i) (hl : i < h'.length) : Out h' L i :=
  ⟨fun hm => by have := a.fp_lt i hm; omega, fun hm => by have := a.rd_lt i hm; omega, hl⟩
theorem Out.step {h h' : AH} {L L' : FL} {F' : FS} {i : Nat} (o : Out h L i) (st : FStep h h' L L' F') : Out h' L' i :=
  ⟨fun hm => (st.newf i hm).elim o.fp fun h1 => by have := o.lt; omega, fun hm => (st.newr i hm).elim o.rd fun h1 => by have := o.lt; omega, by have := o.lt; have := st.fr.len; omega⟩
theorem Out.kept {h h' : AH} {L : FL} {i : Nat} {T : List Nat} (o : Out h L i) (f : Fr T h h') : Out h' L i := ⟨o.fp, o.rd, by have := o.lt; have := f.len; omega⟩
/-- Slices that a device does not write. -/
def Safe (h : AH) (L : FL) (x : Option Sl) : Prop := ∀ i ∈ slId x, i ∉ L.fp ∧ i < h.length
theorem Safe.step {h h' : AH} {L L' : FL} {F' : FS} {x : Option Sl} (o : Safe h L x) (st : FStep h h' L L' F') : Safe h' L' x := fun i hi =>
  ⟨fun hm => (st.newf i hm).elim (o i hi).1 fun h1 => by have := (o i hi).2; omega, by have := (o i hi).2; have := st.fr.len; omega⟩
theorem Safe.kept {h h' : AH} {L : FL} {x : Option Sl} {T : List Nat} (o : Safe h L x) (f : Fr T h h') : Safe h' L x := fun i hi => ⟨(o i hi).1, by have := (o i hi).2; have := f.len; omega⟩

theorem page_g {F : FS} {b k p q e g : Int} {l : List UInt8} (h : (F.page b k p q e g l).1 = 0) : 0 ≤ g ∧ g ≤ 15 := by
  unfold FS.page at h
  split at h
  · rename_i h1; exact absurd h h1
  · rename_i h1
    have h1 : imgE k p q e g l.length F.S = 0 := by simpa using h1
    unfold imgE at h1
    split at h1
    · split at h1
      · rename_i h2
        unfold headE at h2
        split at h2
        · cases h2
        · split at h2
          · cases h2
          · rename_i h3
            omega
      · rename_i h2; exact absurd h1 h2
    · cases h1

def FS.appendFrom (b kind n epoch : Int) : FS → Nat → Int → List (List UInt8) → Int × FS
  | F, _, _, [] => (0, F)
  | F, i, at_, p :: ps => if (F.page b kind i n epoch at_ p).1 ≠ 0 then F.page b kind i n epoch at_ p else FS.appendFrom b kind n epoch (F.page b kind i n epoch at_ p).2 (i + 1) (at_ + 1) ps
def FS.append (F : FS) (b epoch at_ kind : Int) (ps : List (List UInt8)) : Int × FS :=
  if ps.length = 0 then (2, F) else F.appendFrom b kind ps.length epoch 0 at_ ps

theorem region_Append_L0_ok {i8 : Nat} {x : Option Sl} {xs : List (Option Sl)} {ls : List (List UInt8)} (hln : ls.length ≤ 100000) (hll : ∀ l ∈ ls, l.length < 1000000) {b kind epoch : Int} {h0 : AH} {L0 : FL} (h8 : h0.length ≤ i8) (n8 : ∀ y ∈ xs, i8 ∉ slId y) (n8x : i8 ∉ slId x) {Kr K0 : AV → AH → Prop} {R : Int × FS}
    (hk : R.1 = 0 → ∀ h' L', FStep h0 h' L0 L' R.2 → K0 .bot h') (hbad : R.1 ≠ 0 → ∀ h' L', FStep h0 h' L0 L' R.2 → Kr (.int .i64 R.1) h') :
    ∀ (n k : Nat) (at_ : Int) (h : AH) (L : FL) (F : FS) (pt : Int), k + n = ls.length → FStep h0 h L0 L F → FWf F → F.progOk → Mat h x xs ls → (∀ y ∈ xs, Safe h L y) → Safe h L x → Out h L i8 → h[i8]? = some (.cells [.int .i64 kind, .int .i64 pt, .int .i64 ls.length, .int .i64 epoch, .int .i64 at_] false) →
      FS.appendFrom b kind ls.length epoch F k at_ (ls.drop k) = R → region_Append_L0 (some (L0.i, 0)) b (some (i8, 0)) x (ls.length : Int) (k : Int) h Kr K0
  | 0, k, at_, h, L, F, pt, hn, st, w, ho, hm, hsx, hs, out, e8, hR => by
    refine region_Append_L0.go ?_
    unfold region_Append_L0w
    rw [br_neg (by omega)]
    rw [List.drop_of_length_le (by omega)] at hR
    subst hR
    exact hk rfl h L st
  | n + 1, k, at_, h, L, F, pt, hn, st, w, ho, hm, hsx, hs, out, e8, hR => by
    have hlt : k < ls.length := by omega
    have hlen := hm.len
    obtain ⟨s, rfl⟩ : ∃ s, x = some s := by
      cases x with
      | none => simp [lenO] at hlen; omega
      | some s => exact ⟨s, rfl⟩
    refine region_Append_L0.go ?_
    unfold region_Append_L0w
    rw [br_pos (by omega)]
    simp only [ob_some]
    refine mat_i hm k rfl hlt fun y hy hby => ?_
    refine put1_i e8 (by simp) fun h26 e26 f26 => ?_
    have st26 := st.post' f26 (by simp; exact ⟨h8, out.fp, out.rd⟩)
    simp only [List.set_cons_succ, List.set_cons_zero, Nat.zero_add] at e26
    refine ob_all e26 rfl ?_
    rw [ints5_eq]
    rw [← st26.i]
    rw [List.drop_eq_getElem_cons hlt] at hR
    unfold FS.appendFrom at hR
    refine region_program_ok st26.rep w ho (hby.fr f26 fun i hi hm' => by simp at hm'; subst hm'; exact n8 y hy hi) (hll _ (List.getElem_mem hlt)) fun h35 L35 st35 => ?_
    rw [st26.i]
    have stA := st26.trans st35
    by_cases hz : (F.page b kind k ls.length epoch at_ ls[k]).1 = 0
    case neg =>
      rw [if_pos hz] at hR
      rw [br_ne_neq hz, hR]
      rw [hR] at hz stA
      exact hbad hz h35 L35 stA
    rw [if_neg (by simp [hz])] at hR
    rw [br_ne_eq hz]
    have hg := page_g hz
    have out26 := out.kept f26
    have out35 := out26.step st35
    have e35 := st35.fr.keep e26 out26.fp
    simp only [cell_of e35, List.getElem?_cons_zero, List.getElem?_cons_succ, ob_some, chkInt_int, Nat.zero_add]
    refine put1_i e35 (by simp) fun h41 e41 f41 => ?_
    simp only [List.set_cons_succ, List.set_cons_zero] at e41
    rw [wrap_i64 (by omega) (by omega)] at e41
    rw [wrap_i64 (by omega) (by omega)]
    have hm35 : Mat h35 (some s) xs ls := (hm.fr f26 (fun i hi hm' => by simp at hm'; subst hm'; exact n8x hi) (fun y hy i hi hm' => by simp at hm'; subst hm'; exact n8 y hy hi)).fr st35.fr (fun i hi => (hs i hi).1) (fun y hy i hi => (hsx y hy i hi).1)
    refine region_Append_L0_ok hln hll h8 n8 n8x hk hbad n (k + 1) (at_ + 1) h41 L35 _ k (by omega) (stA.post' f41 (by simp; exact ⟨h8, out35.fp, out35.rd⟩)) (w.page _ _ _ _ _ _ _) (FS.page_ok ho _ _ _ _ _ _ _) (hm35.fr f41 (fun i hi hm' => by simp at hm'; subst hm'; exact n8x hi) (fun y hy i hi hm' => by simp at hm'; subst hm'; exact n8 y hy hi))
      (fun y hy => ((((hsx y hy).kept f26).step st35).kept f41)) (((hs.kept f26).step st35).kept f41) (out35.kept f41) e41 hR

theorem region_Append_ok {h : AH} {L : FL} {F : FS} (a : FRep h L F) (w : FWf F) (ho : F.progOk) {x : Option Sl} {xs : List (Option Sl)} {ls : List (List UInt8)} (hm : Mat h x xs ls) (hsx : ∀ y ∈ xs, Safe h L y) (hs : Safe h L x) (hln : ls.length ≤ 100000) (hll : ∀ l ∈ ls, l.length < 1000000) {b epoch at_ kind : Int} {K : Int → AH → Prop}
    (hk : ∀ h' L', FStep h h' L L' (F.append b epoch at_ kind ls).2 → K (F.append b epoch at_ kind ls).1 h') : region_Append (some (L.i, 0)) b epoch at_ kind x h K := by
  refine region_Append.go ?_
  unfold region_Appendw
  rw [hm.len]
  unfold FS.append at hk
  by_cases h0 : ls.length = 0
  · rw [if_pos h0] at hk
    rw [br_eq (by omega)]
    exact hk h L (.same a (.refl _ _))
  rw [if_neg h0] at hk
  rw [br_neq (by omega)]
  refine new_i fun i8 h7 e7 f7 l7 => put_i e7 rfl fun h9 e9 f9 => ?_
  have f9' : Fr [] h h9 := f7.tr f9 (by simpa using l7)
  have lt8 := (List.getElem?_eq_some_iff.1 e9).1
  refine region_Append_L0_ok hln hll l7 (fun y hy hi => by have := (hsx y hy _ hi).2; omega) (fun hi => by have := (hs _ hi).2; omega) (R := F.appendFrom b kind ls.length epoch 0 at_ ls) (fun h1 h' L' st => ?_) (fun h1 h' L' st => ?_) ls.length 0 at_ h9 L F 0 (by omega) (.same a f9') w ho (hm.kept f9') (fun y hy => (hsx y hy).kept f9') (hs.kept f9') (Out.new a l7 lt8) e9 (by simp)
  · have := hk h' L' st
    rw [h1] at this; exact this
  · rw [chkInt_int]; exact hk h' L' st

/-! Seal -/

def sealInts (l : List Tri) : List Int := l.flatMap fun a => [a.1, a.2.1, a.2.2]
def FS.sealF (F : FS) (b epoch at_ : Int) (l : List Tri) : Int × FS :=
  if (sealInts l).all byteOk = true then F.page b 4 0 1 epoch at_ (toBytes (sealInts l)) else (3, F)

theorem sealInts_append (a b : List Tri) : sealInts (a ++ b) = sealInts a ++ sealInts b := by simp [sealInts]
theorem sealInts_length : ∀ l : List Tri, (sealInts l).length = 3 * l.length
  | [] => rfl
  | a :: l => by
    have := sealInts_length l
    unfold sealInts at this ⊢
    rw [List.flatMap_cons, List.length_append, this]; simp; omega

theorem region_Seal_L0_ok {L : List Tri} (hL : L.length ≤ 1000) {z6 : Option (Nat × Nat)} {z7 z8 z9 : Int} {h0 : AH} {Kr K0 : AV → Option Sl → AH → Prop}
    (hk : (sealInts L).all byteOk = true → ∀ x' h', Own h' 1 x' (bys (toBytes (sealInts L))) → Fr [] h0 h' → (∀ i ∈ ids x', h0.length ≤ i) → K0 .bot x' h')
    (hbad : (sealInts L).all byteOk = false → ∀ x' h', Fr [] h0 h' → Kr (.int .i64 3) x' h') {x4 : Option Sl} (h4 : SlAt h0 3 x4 (tri L)) :
    ∀ (n k : Nat) (x : Option Sl) (h : AH), k + n = L.length → (sealInts (L.take k)).all byteOk = true → Fr [] h0 h → Own h 1 x (bys (toBytes (sealInts (L.take k)))) → (∀ i ∈ ids x, h0.length ≤ i) → region_Seal_L0 z6 z7 z8 z9 x x4 (L.length : Int) (k : Int) h Kr K0
  | 0, k, x, h, hn, hv, f, o, hi => by
    refine region_Seal_L0.go ?_
    unfold region_Seal_L0w
    rw [br_neg (by omega)]
    simp only [AV.beq_self, guardR_true]
    rw [List.take_of_length_le (by omega)] at o hv
    exact hk hv x h o f hi
  | n + 1, k, x, h, hn, hv, f, o, hi => by
    have hlt : k < L.length := by omega
    have h4' := h4.kept f
    have hlen := tri_len h4'
    obtain ⟨s, rfl⟩ : ∃ s, x4 = some s := by
      cases x4 with
      | none => simp [lenO] at hlen; omega
      | some s => exact ⟨s, rfl⟩
    refine region_Seal_L0.go ?_
    unfold region_Seal_L0w
    rw [br_pos (by omega)]
    simp only [ob_some]
    refine tri_i h4' k rfl hlt ?_
    refine new_i fun i22 h21 e21 f21 l21 => put_i e21 rfl fun h23 e23 f23 => ?_
    have f23' : Fr [] h h23 := f21.tr f23 (by simpa using l21)
    simp only [cell_of e23, List.getElem?_cons_zero, List.getElem?_cons_succ, ob_some, chkInt_int]
    refine new_i fun i36 h35 e35 f35 l35 => ?_
    have f35' := f23'.trans f35
    have o35 := o.kept f35'
    have hx : ∀ i ∈ ids x, i < h.length := o.lt
    have hh23 := f23'.len
    have hbl : (toBytes (sealInts (L.take k))).length = 3 * k := by
      unfold toBytes; rw [List.length_map, sealInts_length, List.length_take]; omega
    have e : L.take (k + 1) = L.take k ++ [L[k]] := by rw [List.take_add_one, List.getElem?_eq_getElem hlt]; rfl
    have es : sealInts [L[k]] = [L[k].1, L[k].2.1, L[k].2.2] := rfl
    refine region_bytes_ok (L := [L[k].1, L[k].2.1, L[k].2.2]) (by simp) (bs := toBytes (sealInts (L.take k))) (by omega) (SlAt.made e35 rfl) ?_ o35 (fun hv' x' h38 o38 f38 i38 => ?_) (fun hv' h38 f38 => ?_)
    · intro i hm
      have h35 := (List.getElem?_eq_some_iff.1 e35).1
      simp [slId] at hm
      subst hm
      exact ⟨fun hm => by have := hx _ hm; omega, h35⟩
    · simp only [Bool.not_true, br_false]
      rw [wrap_i64 (by omega) (by omega)]
      refine region_Seal_L0_ok hL hk hbad h4 n (k + 1) x' h38 (by omega) ?_ ((f.trans f35').tr f38 hi) ?_ fun i hm => ?_
      · rw [e, sealInts_append, es, List.all_append, hv, hv']; rfl
      · rw [e, sealInts_append, es, toBytes_append]; exact o38
      · rcases i38 i hm with h1 | h1
        · exact hi i h1
        · have := f.len; have := f35'.len; omega
    · simp only [Bool.not_false, br_true, AV.beq_self, guardR_true]
      refine hbad ?_ _ _ ((f.trans f35').tr f38 hi)
      rw [← List.take_append_drop (k + 1) L, e, sealInts_append, sealInts_append, es, List.all_append, List.all_append, hv', Bool.and_false, Bool.false_and]

theorem region_Seal_ok {h : AH} {L : FL} {F : FS} (a : FRep h L F) (w : FWf F) (ho : F.progOk) {x : Option Sl} {l : List Tri} (hx : SlAt h 3 x (tri l)) (hl : l.length ≤ 1000) {b epoch at_ : Int} {K : Int → AH → Prop}
    (hk : ∀ h' L', FStep h h' L L' (F.sealF b epoch at_ l).2 → K (F.sealF b epoch at_ l).1 h') : region_Seal (some (L.i, 0)) b epoch at_ x h K := by
  refine region_Seal.go ?_
  unfold region_Sealw
  rw [tri_len hx]
  unfold FS.sealF at hk
  refine region_Seal_L0_ok hl (fun hv x' h' o f i => ?_) (fun hv x' h' f => ?_) hx l.length 0 none h (by omega) (by simp [sealInts]) (.refl _ _) rfl (by simp [ids])
  · rw [if_pos hv] at hk
    refine region_program_ok (a.kept f) w ho o.slAt (by unfold toBytes; rw [List.length_map, sealInts_length]; omega) fun h'' L' st => hk h'' L' (st.pre f)
  · rw [if_neg (by simp [hv])] at hk
    rw [chkInt_int]
    exact hk h' L (.same a f)

/-! Load -/

/-- A block's pages. -/
def FS.load (F : FS) (b : Int) : List (List UInt8) := (List.range F.P).map fun (p : Nat) => F.read b p
theorem findE_page {F : FS} (w : FWf F) (b : Int) {p : Nat} (hp : p < F.P) : F.findE b p = F.findE b 0 := by
  have := w.P
  unfold FS.findE
  rw [if_neg (show ¬¬(0 ≤ (p : Int) ∧ (p : Int) < F.P) by omega), if_neg (show ¬¬((0 : Int) ≤ 0 ∧ (0 : Int) < F.P) by omega)]

theorem region_Load_L0_ok {h0 : AH} {L : FL} {F : FS} (a : FRep h0 L F) (w : FWf F) {b : Int} {Kr K0 : AV → AV → Option Sl → AH → Prop}
    (hk : F.findE b 0 = 0 → ∀ x' xs h', Mat h' x' xs (F.load b) → Own h' 1 x' (slCells xs) → Fr [] h0 h' → (∀ i ∈ ids x', h0.length ≤ i) → (∀ y ∈ xs, ∀ i ∈ slId y, h0.length ≤ i) → K0 .bot .bot x' h')
    (hbad : F.findE b 0 ≠ 0 → ∀ x' h', Fr [] h0 h' → Kr (.slice none) (.int .i64 (F.findE b 0)) x' h') :
    ∀ (n k : Nat) (x : Option Sl) (xs : List (Option Sl)) (h : AH), k + n = F.P → (0 < k → F.findE b 0 = 0) → Fr [] h0 h → Own h 1 x (slCells xs) → Bys h xs ((F.load b).take k) → (∀ i ∈ ids x, h0.length ≤ i) → (∀ y ∈ xs, ∀ i ∈ slId y, h0.length ≤ i ∧ i ∉ ids x) → region_Load_L0 (some (L.i, 0)) b x (F.P : Int) (k : Int) h Kr K0
  | 0, k, x, xs, h, hn, he, f, o, hb, hi, hy => by
    refine region_Load_L0.go ?_
    unfold region_Load_L0w
    rw [br_neg (by omega)]
    have hP := w.P
    rw [List.take_of_length_le (by simp [FS.load]; omega)] at hb
    exact hk (he (by omega)) x xs h ⟨o.slAt, hb⟩ o f hi fun y hm i h1 => (hy y hm i h1).1
  | n + 1, k, x, xs, h, hn, he, f, o, hb, hi, hy => by
    have hP := w.P
    have hlt : k < F.P := by omega
    refine region_Load_L0.go ?_
    unfold region_Load_L0w
    rw [br_pos (by omega)]
    have hfe := findE_page w b hlt
    refine flash_Read_ok (a.kept f) w (fun hne => ?_) fun h0' z h25 hz hzl f25 i25 => ?_
    · rw [br_ne_neq hne, hfe]
      rw [hfe] at hne
      exact hbad hne _ _ f
    rw [br_ne_eq rfl]
    refine new_i fun i29 h28 e28 f28 l28 => ?_
    have f28' := f25.trans f28
    have hs28 : SlAt h28 1 (some ⟨i29, 0, 1, 1, none⟩) (slCells [z]) := SlAt.made e28 rfl
    have hxl := hb.len
    have hll : (F.load b).length = F.P := by simp [FS.load]
    rw [List.length_take, hll, Nat.min_eq_left (by omega)] at hxl
    have el : lenO x = k := by have := o.slAt.len; simp [slCells, hxl] at this; exact this
    refine append_own (bytes := 24) (o.kept f28') (fun K' => aNews_at hs28 (by decide) K') (by simp [lenO, slCells]) (slCells_scal _) (by show (lenO x + 1) * 24 ≤ _; omega) fun x' h33 o33 f33 i33 => ?_
    rw [show slCells xs ++ slCells [z] = slCells (xs ++ [z]) by simp [slCells]] at o33
    rw [wrap_i64 (by omega) (by omega)]
    have hfl := f.len
    have hfl28 := f28'.len
    have hxlt : ∀ i ∈ ids x, i < h.length := o.lt
    have htk : (F.load b).take (k + 1) = (F.load b).take k ++ [F.read b k] := by
      rw [List.take_add_one, List.getElem?_eq_getElem (by omega)]
      simp [FS.load]
    refine region_Load_L0_ok a w hk hbad n (k + 1) x' (xs ++ [z]) h33 (by omega) (fun _ => by rw [← hfe]; exact h0') ((f.trans f28').tr f33 hi) o33 ?_ (fun i hm => ?_) (fun y hm i h1 => ?_)
    · rw [htk]
      have hz28 := hz.kept f28
      refine All2.append (Bys.fr (hb.kept f28') f33 fun y hm i h1 => (hy y hm i h1).2) ⟨hz28.fr f33 fun i h1 hm => ?_, trivial⟩
      have := i25 i h1; have := hxlt i hm; omega
    · rcases i33 i hm with h1 | h1
      · exact hi i h1
      · omega
    · have hylt : ∀ i ∈ slId y, i < h28.length ∧ h0.length ≤ i ∧ i ∉ ids x := fun i h1 => by
        rcases List.mem_append.1 hm with h2 | h2
        · obtain ⟨m, hm', rfl⟩ := List.mem_iff_getElem.1 h2
          obtain ⟨l, _, hl⟩ := All2.get hb m _ (List.getElem?_eq_getElem hm')
          have := SlAt.lt hl (by decide) i h1
          exact ⟨by omega, hy _ h2 i h1⟩
        · simp at h2
          subst h2
          have := SlAt.lt (hz.kept f28) (by decide) i h1
          have := i25 i h1
          exact ⟨by omega, by omega, fun hm => by have := hxlt i hm; omega⟩
      obtain ⟨h2, h3, h4⟩ := hylt i h1
      refine ⟨h3, fun hm' => ?_⟩
      rcases i33 i hm' with h5 | h5
      · exact h4 h5
      · omega

theorem region_Load_ok {h : AH} {L : FL} {F : FS} (a : FRep h L F) (w : FWf F) {b : Int} {K : Option Sl → Int → AH → Prop}
    (hk : F.findE b 0 = 0 → ∀ x' xs h', Mat h' x' xs (F.load b) → Fr [] h h' → (∀ i ∈ ids x', h.length ≤ i) → (∀ y ∈ xs, ∀ i ∈ slId y, h.length ≤ i) → K x' 0 h')
    (hbad : F.findE b 0 ≠ 0 → ∀ h', Fr [] h h' → K none (F.findE b 0) h') : region_Load (some (L.i, 0)) b h K := by
  refine region_Load.go ?_
  unfold region_Loadw
  simp only [Option.isNone_some, br_false]
  refine flash_Config_ok a fun h4 f4 => ?_
  have hl := f4.len
  refine region_Load_L0_ok (a.kept f4) w (fun he x' xs h' m o f i1 i2 => hk he x' xs h' m (f4.trans f) (fun i hi => by have := i1 i hi; omega) (fun y hy i hi => by have := i2 y hy i hi; omega)) (fun he x' h' f => ?_) F.P 0 none [] h4 (by omega) (by omega) (.refl _ _) rfl (by simp [Bys, All2]) (by simp [ids]) (by simp)
  simp only [chkSl_slice, chkInt_int]
  exact hbad he h' (f4.trans f)

end Go.Abs
