/- What a block's pages have: the program's scan. -/
import Derived.Test.YtdpecfeofcibhaaB16
namespace Go.Abs

theorem lenO_cut' {h : AH} {sz : Nat} {x : Option Sl} {cs : List AV} (a : SlAt h sz x cs) (hz : sz ≠ 0) {i j : Nat} (hi : i ≤ j) (hj : j ≤ lenO x) : lenO (cutO sz i j x) = j - i := by
  have h1 := (a.cut hz hi hj).len
  have h2 := a.len
  have : ((cs.drop (i * sz)).take ((j - i) * sz)).length = (j - i) * sz := by
    rw [List.length_take, List.length_drop, ← h2, ← Nat.sub_mul, Nat.min_eq_left]
    exact Nat.mul_le_mul_right _ (by omega)
  rw [this] at h1
  exact Nat.eq_of_mul_eq_mul_right (by omega) h1
theorem Mat.take {h : AH} {x : Option Sl} {xs : List (Option Sl)} {ls : List (List UInt8)} (a : Mat h x xs ls) {n : Nat} (hn : n ≤ ls.length) : Mat h (cutO 1 0 n x) (xs.take n) (ls.take n) := by
  refine ⟨?_, All2.take n a.ins⟩
  have := a.out.cut (by decide) (Nat.zero_le n) (by rw [a.len]; exact hn)
  simpa [slCells, List.map_take] using this

def lastTo (ls : List (List UInt8)) : Nat → Nat
  | 0 => 0
  | k + 1 => if blankB (ls.getD k []) = true then lastTo ls k else k
theorem lastTo_lt (ls : List (List UInt8)) : ∀ k, 0 < k → lastTo ls k < k
  | 0, h => by omega
  | k + 1, _ => by
    unfold lastTo
    split
    · rcases Nat.eq_zero_or_pos k with h | h
      · subst h; simp [lastTo]
      · have := lastTo_lt ls k h; omega
    · omega

/-- An image of a page, in the scanner. -/
def imC (x : Option Sl) (l : List UInt8) : List AV :=
  [.int .i64 (ifOk l (getB l 0).toNat), .int .i64 (ifOk l (getB l 1).toNat), .int .i64 (ifOk l (getB l 2).toNat), .int .i64 (ifOk l (pEp l)), .int .i64 (ifOk l (getB l 8).toNat), .slice x, .bool (parseE l == 0)]
def imCells : List (Option Sl) → List (List UInt8) → List AV
  | x :: xs, l :: ls => imC x l ++ imCells xs ls
  | _, _ => []
theorem imCells_length : ∀ {xs : List (Option Sl)} {ls : List (List UInt8)}, xs.length = ls.length → (imCells xs ls).length = ls.length * 7
  | [], [], _ => rfl
  | x :: xs, l :: ls, h => by
    have := imCells_length (xs := xs) (ls := ls) (by simpa using h)
    rw [imCells, List.length_append, this]; simp [imC]; omega
  | [], _ :: _, h => by simp at h
  | _ :: _, [], h => by simp at h
theorem imCells_snoc : ∀ {xs : List (Option Sl)} {ls : List (List UInt8)} (x : Option Sl) (l : List UInt8), xs.length = ls.length → imCells (xs ++ [x]) (ls ++ [l]) = imCells xs ls ++ imC x l
  | [], [], x, l, _ => by simp [imCells]
  | y :: xs, m :: ls, x, l, h => by
    simp only [List.cons_append, imCells, imCells_snoc x l (show xs.length = ls.length by simpa using h), List.append_assoc]
  | [], _ :: _, _, _, h => by simp at h
  | _ :: _, [], _, _, h => by simp at h
theorem imCells_drop : ∀ {xs : List (Option Sl)} {ls : List (List UInt8)} (k : Nat) (x : Option Sl) (l : List UInt8), xs[k]? = some x → ls[k]? = some l → ∃ r, (imCells xs ls).drop (k * 7) = imC x l ++ r
  | y :: xs, m :: ls, 0, x, l, hx, hl => by
    simp at hx hl; subst hx hl; exact ⟨_, rfl⟩
  | y :: xs, m :: ls, k + 1, x, l, hx, hl => by
    obtain ⟨r, hr⟩ := imCells_drop (xs := xs) (ls := ls) k x l (by simpa using hx) (by simpa using hl)
    refine ⟨r, ?_⟩
    rw [imCells, show (k + 1) * 7 = 7 + k * 7 by omega, ← List.drop_drop, List.drop_left' (by simp [imC]), hr]
  | [], _, _, _, _, hx, _ => by simp at hx
  | _ :: _, [], _, _, _, _, hl => by simp at hl
theorem imC_scal (x : Option Sl) (l : List UInt8) : (imC x l).all AV.scal = true := by simp [imC, AV.scal]

/-- A scanner in the heap. -/
structure Scn (h : AH) (i : Nat) (ims : Option Sl) (xs : List (Option Sl)) (ls : List (List UInt8)) (epoch last : Int) : Prop where
  main : h[i]? = some (.cells [.slice ims, .int .i64 epoch, .int .i64 last] false)
  im : SlAt h 7 ims (imCells xs ls)
  len : xs.length = ls.length
  pay : ∀ (k : Nat) x l, xs[k]? = some x → ls[k]? = some l → (parseE l = 0 → By h x (pLoad l)) ∧ (parseE l ≠ 0 → x = none)

theorem pay_fr {h h' : AH} {xs : List (Option Sl)} {ls : List (List UInt8)} (a : ∀ (k : Nat) x l, xs[k]? = some x → ls[k]? = some l → (parseE l = 0 → By h x (pLoad l)) ∧ (parseE l ≠ 0 → x = none)) {T : List Nat} (f : Fr T h h') (ht : ∀ x ∈ xs, ∀ i ∈ slId x, i ∉ T) :
    ∀ (k : Nat) x l, xs[k]? = some x → ls[k]? = some l → (parseE l = 0 → By h' x (pLoad l)) ∧ (parseE l ≠ 0 → x = none) := fun k x l hx hl =>
  ⟨fun h0 => ((a k x l hx hl).1 h0).fr f (ht x (List.mem_of_getElem? hx)), (a k x l hx hl).2⟩
theorem Scn.kept {h h' : AH} {i : Nat} {ims : Option Sl} {xs : List (Option Sl)} {ls : List (List UInt8)} {epoch last : Int} (a : Scn h i ims xs ls epoch last) (f : Fr [] h h') : Scn h' i ims xs ls epoch last :=
  ⟨f.kept a.main, a.im.kept f, a.len, pay_fr a.pay f (by simp)⟩
theorem Scn.lenO {h : AH} {i : Nat} {ims : Option Sl} {xs : List (Option Sl)} {ls : List (List UInt8)} {epoch last : Int} (a : Scn h i ims xs ls epoch last) : Go.Abs.lenO ims = ls.length := by
  have := a.im.len; rw [imCells_length a.len] at this; omega

theorem region_look_L0_ok {i : Nat} {z : Option Sl} {px : List (Option Sl)} {ls : List (List UInt8)} (hln : ls.length ≤ 16) (hll : ∀ l ∈ ls, l.length < 1000000) {h0 : AH} (hi0 : h0.length ≤ i) {K : AH → Prop}
    (hk : ∀ ims xs h', Scn h' i ims xs ls 0 (lastTo ls ls.length) → Fr [] h0 h' → (∀ q, q ∈ ids ims ∨ (∃ x ∈ xs, q ∈ slId x) → h0.length ≤ q ∧ q ≠ i) → K h') (hm : Mat h0 z px ls) :
    ∀ (n k : Nat) (ims : Option Sl) (xs : List (Option Sl)) (h : AH), k + n = ls.length → Fr [] h0 h → h[i]? = some (.cells [.slice ims, .int .i64 0, .int .i64 (lastTo ls k)] false) → Own h 7 ims (imCells xs (ls.take k)) → xs.length = k →
      (∀ (m : Nat) x l, xs[m]? = some x → (ls.take k)[m]? = some l → (parseE l = 0 → By h x (pLoad l)) ∧ (parseE l ≠ 0 → x = none)) → (∀ q ∈ ids ims, h0.length ≤ q ∧ q ≠ i) → (∀ x ∈ xs, ∀ q ∈ slId x, h0.length ≤ q ∧ q ≠ i ∧ q ∉ ids ims ∧ q < h.length) →
      region_look_L0 (some (i, 0)) z (ls.length : Int) (k : Int) h K
  | 0, k, ims, xs, h, hn, f, e, o, hx, hp, hq, hxs => by
    refine region_look_L0.go ?_
    unfold region_look_L0w
    rw [br_neg (by omega)]
    simp only [AV.beq_self, guardR_true]
    obtain rfl : k = ls.length := by omega
    rw [List.take_length] at o hp
    exact hk ims xs h ⟨e, o.slAt, hx, hp⟩ f fun q hq' => hq'.elim (hq q) fun ⟨x, hx', h1⟩ => ⟨(hxs x hx' q h1).1, (hxs x hx' q h1).2.1⟩
  | n + 1, k, ims, xs, h, hn, f, e, o, hx, hp, hq, hxs => by
    have hlt : k < ls.length := by omega
    have hm' := hm.kept f
    have hlen := hm'.len
    obtain ⟨s, rfl⟩ : ∃ s, z = some s := by
      cases z with
      | none => simp [Go.Abs.lenO] at hlen; omega
      | some s => exact ⟨s, rfl⟩
    refine region_look_L0.go ?_
    unfold region_look_L0w
    rw [br_pos (by omega)]
    simp only [ob_some]
    refine mat_i hm' k rfl hlt fun y hy hby => ?_
    have hyl := hll _ (List.getElem_mem hlt)
    refine page_Parse_ok hby hyl fun x' h17 p1 p2 f17 i17 => ?_
    refine new_i fun i26 h25 e25 f25 l25 => put_i e25 rfl fun h27 e27 f27 => hold_i fun h28 f28 u28 => ?_
    have hf := f.len
    have hf17 := f17.len
    have f25' := f17.trans f25
    have f27' : Fr [] h h27 := f25'.tr f27 (by simp; omega)
    have f28' := f27'.trans f28
    have e28 := f28'.kept e
    simp only [ob_some, cell_of e28, List.getElem?_cons_zero, chkSl_slice]
    refine ob_all (f28.kept e27) rfl ?_
    rw [ints5_eq]
    refine birth_i (u28 0 (by omega)) fun h38 e38 f38 => ?_
    have hf27 := f27'.len
    have f38' : Fr [] h h38 := f28'.tr f38 (by simp; omega)
    have ilt := (List.getElem?_eq_some_iff.1 e).1
    have o38 := o.kept f38'
    have hs38 : SlAt h38 7 (some ⟨h27.length + 0, 0, 1, 1, none⟩) (imC x' ls[k]) := SlAt.made e38 rfl
    have el : Go.Abs.lenO ims = k := by
      have := o.slAt.len
      rw [imCells_length (by rw [List.length_take]; omega), List.length_take] at this; omega
    refine append_own (bytes := 72) o38 (fun K' => aNews_at hs38 (by decide) K') (by simp [Go.Abs.lenO, imC]) (imC_scal _ _) (by show (Go.Abs.lenO ims + 1) * 72 ≤ _; omega) fun s41 h42 o42 f42 i42 => ?_
    have hge : ls.take (k + 1) = ls.take k ++ [ls[k]] := by rw [List.take_add_one, List.getElem?_eq_getElem hlt]; rfl
    rw [← imCells_snoc _ _ (by rw [List.length_take]; omega), ← hge] at o42
    have nims : i ∉ ids ims := fun h1 => (hq i h1).2 rfl
    have e42 := f42.keep (f38'.kept e) nims
    refine put1_i e42 (by simp) fun h44 e44 f44 => ?_
    simp only [List.set_cons_zero] at e44
    have hf38 := f38'.len
    have hf42 := f42.len
    have f42' : Fr [] h0 h42 := (f.trans f38').tr f42 fun q h1 => (hq q h1).1
    have f44' : Fr [] h0 h44 := f42'.tr f44 (by simpa using hi0)
    have ns41 : ∀ q ∈ ids s41, h0.length ≤ q ∧ q ≠ i := fun q h1 => by
      rcases i42 q h1 with h2 | h2
      · exact hq q h2
      · omega
    have o44 : Own h44 7 s41 (imCells (xs ++ [x']) (ls.take (k + 1))) := o42.fr f44 fun q h1 hm => by simp at hm; exact (ns41 q h1).2 hm
    -- the payloads
    have hxs' : ∀ x ∈ xs ++ [x'], ∀ q ∈ slId x, h0.length ≤ q ∧ q ≠ i ∧ q ∉ ids s41 ∧ q < h38.length ∧ q ∉ ids ims := by
      intro x hxm q h1
      rcases List.mem_append.1 hxm with h2 | h2
      · obtain ⟨a1, a2, a3, a4⟩ := hxs x h2 q h1
        refine ⟨a1, a2, fun h3 => ?_, by omega, a3⟩
        rcases i42 q h3 with h4 | h4
        · exact a3 h4
        · omega
      · simp at h2
        subst h2
        have h3 := i17 q h1
        have h5 : q < h17.length := by
          by_cases hz : parseE ls[k] = 0
          · exact SlAt.lt (p1 hz) (by decide) q h1
          · rw [p2 hz] at h1; simp [slId] at h1
        have h6 : q ∉ ids ims := fun h4 => by have := o.lt q h4; omega
        have := f25.len; have := f27.len; have := f28.len; have := f38.len
        refine ⟨by omega, by omega, fun h3 => ?_, by omega, h6⟩
        rcases i42 q h3 with h4 | h4
        · exact h6 h4
        · omega
    have hp44 : ∀ (m : Nat) x l, (xs ++ [x'])[m]? = some x → (ls.take (k + 1))[m]? = some l → (parseE l = 0 → By h44 x (pLoad l)) ∧ (parseE l ≠ 0 → x = none) := by
      have base : ∀ (m : Nat) x l, (xs ++ [x'])[m]? = some x → (ls.take (k + 1))[m]? = some l → (parseE l = 0 → By h38 x (pLoad l)) ∧ (parseE l ≠ 0 → x = none) := by
        intro m x l hxm hlm
        rw [hge] at hlm
        rcases Nat.lt_trichotomy m k with h1 | h1 | h1
        · rw [List.getElem?_append_left (by omega)] at hxm
          rw [List.getElem?_append_left (by rw [List.length_take]; omega)] at hlm
          have := hp m x l hxm hlm
          exact ⟨fun h0 => (this.1 h0).kept f38', this.2⟩
        · rw [List.getElem?_append_right (by omega), hx, h1, Nat.sub_self] at hxm
          rw [List.getElem?_append_right (by rw [List.length_take]; omega), List.length_take, h1, Nat.min_eq_left (by omega), Nat.sub_self] at hlm
          simp at hxm hlm
          subst hxm hlm
          have ft : Fr [] h17 h38 := (f25.tr f27 (by simpa using l25)).trans f28 |>.tr f38 (by have := f25.len; have := f27.len; simp; omega)
          exact ⟨fun h0 => (p1 h0).kept ft, p2⟩
        · rw [List.getElem?_eq_none (by simp; omega)] at hxm; cases hxm
      refine pay_fr (pay_fr base f42 fun x hxm q h1 h2 => (hxs' x hxm q h1).2.2.2.2 h2) f44 fun x hxm q h1 h2 => ?_
      simp at h2; exact (hxs' x hxm q h1).2.1 h2
    have hby44 : By h44 y ls[k] := (hm.kept f44').ins.get hlt |> fun _ => by
      have : By h38 y ls[k] := hby.kept f38'
      have hin : ∀ q ∈ slId y, q < h0.length := by
        obtain ⟨m, hm1, rfl⟩ := List.mem_iff_getElem.1 hy
        obtain ⟨l, _, hb⟩ := All2.get hm.ins m _ (List.getElem?_eq_getElem hm1)
        exact SlAt.lt hb (by decide)
      exact (this.fr f42 fun q h1 h2 => by have := hin q h1; have := (hq q h2).1; omega).fr f44 fun q h1 h2 => by have := hin q h1; simp at h2; omega
    refine page_Blank_ok hby44 hyl ?_
    have hgd : ls.getD k [] = ls[k] := by rw [List.getD_eq_getElem?_getD, List.getElem?_eq_getElem hlt]; rfl
    rw [wrap_i64 (by omega) (by omega)]
    have hf44 := f44.len
    refine br_intro (fun hb => ?_) fun hb => ?_
    · refine put1_i e44 (by simp) fun h49 e49 f49 => ?_
      simp only [List.set_cons_zero, List.set_cons_succ] at e49
      have elast : lastTo ls (k + 1) = k := by unfold lastTo; rw [hgd, if_neg (by simpa using hb)]
      refine region_look_L0_ok hln hll hi0 hk hm n (k + 1) s41 (xs ++ [x']) h49 (by omega) (f44'.tr f49 (by simpa using hi0)) (by rw [elast]; exact e49) (o44.fr f49 fun q h1 hm => by simp at hm; exact (ns41 q h1).2 hm) (by simp [hx]) (pay_fr hp44 f49 fun x hxm q h1 h2 => by simp at h2; exact (hxs' x hxm q h1).2.1 h2) ns41 fun x hxm q h1 => ?_
      obtain ⟨a1, a2, a3, a4, _⟩ := hxs' x hxm q h1
      have := f49.len
      exact ⟨a1, a2, a3, by omega⟩
    · have elast : lastTo ls (k + 1) = lastTo ls k := by rw [lastTo, hgd, if_pos (by simpa using hb)]
      refine region_look_L0_ok hln hll hi0 hk hm n (k + 1) s41 (xs ++ [x']) h44 (by omega) f44' (by rw [elast]; exact e44) o44 (by simp [hx]) hp44 ns41 fun x hxm q h1 => ?_
      obtain ⟨a1, a2, a3, a4, _⟩ := hxs' x hxm q h1
      exact ⟨a1, a2, a3, by omega⟩

theorem region_look_ok {x : Option Sl} {px : List (Option Sl)} {ls : List (List UInt8)} (hll : ∀ l ∈ ls, l.length < 1000000) {h : AH} (hm : Mat h x px ls) (hb : ls.length < 1000000) {K : Option (Nat × Nat) → AH → Prop}
    (hk : ∀ i ims xs h', Scn h' i ims xs (ls.take 16) 0 (lastTo (ls.take 16) (ls.take 16).length) → Fr [] h h' → h.length ≤ i → (∀ q, q ∈ ids ims ∨ (∃ x ∈ xs, q ∈ slId x) → h.length ≤ q ∧ q ≠ i) → K (some (i, 0)) h') : region_look x h K := by
  refine region_look.go ?_
  unfold region_lookw
  refine new_i fun i h2 e2 f2 l2 => ?_
  have e : (if (16 : Int) < ((Go.Abs.lenO x : Nat) : Int) then 16 else ((Go.Abs.lenO x : Nat) : Int)) = ((min 16 ls.length : Nat) : Int) := by
    rw [hm.len]; split <;> omega
  rw [e, Int.toNat_natCast]
  refine need_i (by rw [hm.len]; omega) (guardR_i hm.out.cutOk ?_)
  have e16 : ls.take (min 16 ls.length) = ls.take 16 := by
    rcases Nat.le_total 16 ls.length with h1 | h1
    · rw [Nat.min_eq_left h1]
    · rw [Nat.min_eq_right h1, List.take_of_length_le h1, List.take_length]
  have hmt := hm.take (n := min 16 ls.length) (Nat.min_le_right _ _)
  rw [e16] at hmt
  rw [hmt.len]
  exact region_look_L0_ok (h0 := h) (i := i) (by simp; omega) (fun l hl => hll l (List.mem_of_mem_take hl)) l2 (fun ims xs h' sc f' hq => hk i ims xs h' sc f' l2 hq) hmt (ls.take 16).length 0 none [] h2 (by omega) f2 e2 (by simp [imCells]; rfl) rfl (by simp) (by simp [ids]) (by simp)

/-! says -/

/-- Does a page say just that of itself? -/
def saysB (ls : List (List UInt8)) (epoch at_ k p q : Int) : Bool :=
  decide (0 ≤ at_) && match ls[at_.toNat]? with
  | some l => parseE l == 0 && (((getB l 0).toNat : Int) == k && (((getB l 1).toNat : Int) == p && (((getB l 2).toNat : Int) == q && (((pEp l : Nat) : Int) == epoch && ((((getB l 8).toNat : Int) == at_) && true)))))
  | none => false

theorem cells7 {h : AH} {s : Sl} {xs : List (Option Sl)} {ls : List (List UInt8)} (a : SlAt h 7 (some s) (imCells xs ls)) (hl : xs.length = ls.length) {k : Nat} {x : Option Sl} {l : List UInt8} (hx : xs[k]? = some x) (hlk : ls[k]? = some l) :
    (∀ o, o < 7 → h.cell s.id (s.off + k * 7 + o) = (imC x l)[o]?) ∧ (∀ n, n ≤ 7 → 0 < n → h.cellsAt s.id (s.off + k * 7) n = some ((imC x l).take n)) := by
  obtain ⟨r, hr⟩ := imCells_drop k x l hx hlk
  have hk := (List.getElem?_eq_some_iff.1 hlk).1
  have hlen := imCells_length hl
  refine ⟨fun o ho => ?_, fun n hn hn0 => ?_⟩
  · rw [Nat.add_assoc, a.at_ (by omega), ← List.getElem?_drop, hr, List.getElem?_append_left (by simp [imC]; omega)]
  · rw [a.sub hn0 (by omega), hr, List.take_append_of_le_length (by simp [imC]; omega)]

theorem region_says_ok {h : AH} {i : Nat} {ims : Option Sl} {xs : List (Option Sl)} {ls : List (List UInt8)} {epoch last : Int} (sc : Scn h i ims xs ls epoch last) {at_ k p q e0 g0 : Int} {K : Option Sl → Bool → AH → Prop}
    (hno : saysB ls epoch at_ k p q = false → ∀ h', Fr [] h h' → K none false h')
    (hyes : saysB ls epoch at_ k p q = true → ∀ (n : Nat) x l h', at_ = n → xs[n]? = some x → ls[n]? = some l → parseE l = 0 → By h' x (pLoad l) → Fr [] h h' → K x true h') : region_scanner_says (some (i, 0)) at_ k p q e0 g0 h K := by
  refine region_scanner_says.go ?_
  unfold region_scanner_saysw
  refine new_i fun i9 h8 e8 f8 l8 => ?_
  have sc8 := sc.kept f8
  simp only [ob_some, Nat.zero_add, cell_of sc8.main, List.getElem?_cons_zero, List.getElem?_cons_succ, chkInt_int]
  refine put1_i e8 (by simp) fun h13 e13 f13 => put1_i e13 (by simp) fun h14 e14 f14 => hold0_i ?_
  simp only [List.set_cons_zero, List.set_cons_succ] at e14
  have f14' : Fr [] h h14 := (f8.tr f13 (by simpa using l8)).tr f14 (by simpa using l8)
  have s14 := sc.kept f14'
  have hno' : saysB ls epoch at_ k p q = false → K none false h14 := fun h1 => hno h1 h14 f14'
  refine br_dec (fun h1 => hno' (by unfold saysB; rw [decide_eq_false (by omega), Bool.false_and])) fun h1 => ?_
  obtain ⟨n, rfl⟩ := Int.eq_ofNat_of_zero_le (show 0 ≤ at_ by omega)
  simp only [ob_some, cell_of s14.main, List.getElem?_cons_zero, chkSl_slice]
  have hlen := s14.lenO
  rw [hlen]
  refine br_dec (fun h2 => hno' ?_) fun h2 => ?_
  · unfold saysB
    rw [Int.toNat_natCast, List.getElem?_eq_none (by omega)]; simp
  have hlt : n < ls.length := by omega
  obtain ⟨s, rfl⟩ : ∃ s, ims = some s := by
    cases ims with
    | none => simp [Go.Abs.lenO] at hlen; omega
    | some s => exact ⟨s, rfl⟩
  have hlx : n < xs.length := by rw [sc.len]; exact hlt
  have hsl : s.len = ls.length := hlen
  have c7 := cells7 s14.im s14.len (List.getElem?_eq_getElem hlx) (List.getElem?_eq_getElem hlt)
  simp only [ob_some, cell_of s14.main, List.getElem?_cons_zero, chkSl_slice, Int.toNat_natCast]
  refine need_i (by omega) (ob_i (c7.1 6 (by decide)) ?_)
  rw [chkBool_bool]
  have hS : saysB ls epoch n k p q = (parseE ls[n] == 0 && (((getB ls[n] 0).toNat : Int) == k && (((getB ls[n] 1).toNat : Int) == p && (((getB ls[n] 2).toNat : Int) == q && (((pEp ls[n] : Nat) : Int) == epoch && ((((getB ls[n] 8).toNat : Int) == (n : Int)) && true)))))) := by
    unfold saysB
    rw [Int.toNat_natCast, List.getElem?_eq_getElem hlt, decide_eq_true (by omega), Bool.true_and]
  refine br_intro (fun h3 => hno' ?_) fun h3 => ?_
  · have : (parseE ls[n] == 0) = false := by simpa using h3
    rw [hS, this, Bool.false_and]
  have hz : parseE ls[n] = 0 := by simpa using h3
  try simp only [ob_some, cell_of s14.main, List.getElem?_cons_zero, chkSl_slice, Int.toNat_natCast]
  refine need_i (by omega) (ob_i (c7.2 5 (by decide) (by decide)) ?_)
  have eim : (imC xs[n] ls[n]).take 5 = [.int .i64 (ifOk ls[n] (getB ls[n] 0).toNat), .int .i64 (ifOk ls[n] (getB ls[n] 1).toNat), .int .i64 (ifOk ls[n] (getB ls[n] 2).toNat), .int .i64 (ifOk ls[n] (pEp ls[n])), .int .i64 (ifOk ls[n] (getB ls[n] 8).toNat)] := rfl
  rw [eim, ints5_eq]
  refine ob_all e14 rfl ?_
  rw [ints5_eq]
  have ifo : ∀ m, ifOk ls[n] m = m := fun m => if_pos hz
  simp only [ifo]
  refine br_intro (fun h4 => hno' ?_) fun h4 => ?_
  · rw [hS, hz]
    simpa only [beq_self_eq_true, Bool.true_and, Bool.not_eq_true'] using h4
  try simp only [ob_some, cell_of s14.main, List.getElem?_cons_zero, chkSl_slice, Int.toNat_natCast]
  refine need_i (by omega) (ob_i (c7.1 5 (by decide)) ?_)
  rw [chkSl_slice]
  refine hyes ?_ n _ _ h14 rfl (List.getElem?_eq_getElem hlx) (List.getElem?_eq_getElem hlt) hz ((s14.pay n _ _ (List.getElem?_eq_getElem hlx) (List.getElem?_eq_getElem hlt)).1 hz) f14'
  rw [hS, hz]
  simpa only [beq_self_eq_true, Bool.true_and, Bool.not_eq_false'] using h4

theorem region_item_ok {k : Int} {h : AH} {K : Bool → AH → Prop} (hk : K (k == 2 || k == 3) h) : region_item k h K := by
  refine region_item.go ?_
  unfold region_itemw
  refine br_ieq (fun h1 => ?_) fun h1 => ?_
  · subst h1; exact hk
  · have : (k == 2) = false := beq_eq_false_iff_ne.2 h1
    rw [this, Bool.false_or] at hk; exact hk

end Go.Abs
