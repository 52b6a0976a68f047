/- What a block's pages have: Scan, Parts (the program's). -/
import Derived.Test.YtdpecfeofcibhaaB18
namespace Go.Abs

/-- What pages are as a region: epoch, sealed, items. -/
def scanS (ls0 : List (List UInt8)) : Option (Int × Bool × List Tri) :=
  match ls0 with
  | [] => none
  | l0 :: _ =>
    if saysB (ls0.take 16) (ifOk l0 (pEp l0)) 0 1 0 1 = true ∧ pLoad l0 = [] then
      match (if 0 < lastTo (ls0.take 16) (ls0.take 16).length then scanSeal (ls0.take 16) (ifOk l0 (pEp l0)) (lastTo (ls0.take 16) (ls0.take 16).length) else none) with
      | some l => some (ifOk l0 (pEp l0), true, l)
      | none => some (ifOk l0 (pEp l0), false, eachS (ls0.take 16) (ifOk l0 (pEp l0)) (lastTo (ls0.take 16) (ls0.take 16).length) (lastTo (ls0.take 16) (ls0.take 16).length) 1)
    else none

/-- The answer of a scan. -/
structure ScanK (h : AH) (ls : List (List UInt8)) (K : Int → Bool → Option Sl → Bool → AH → Prop) : Prop where
  no : scanS ls = none → ∀ h', Fr [] h h' → K 0 false none false h'
  yes : ∀ e s l, scanS ls = some (e, s, l) → ∀ x' h', SlAt h' 3 x' (tri l) → Fr [] h h' → (∀ q ∈ ids x', h.length ≤ q) → K e s x' true h'

theorem retR {h : AH} {i : Nat} {c : List AV} {e : Int} {b : Bool} {x : Option Sl} {K : Int → Bool → Option Sl → AH → Prop} (e0 : h[i]? = some (.cells c false)) (hl : c.length = 3) (hk : ∀ h', Fr [i] h h' → K e b x h') :
    ob (h.puts i 0 [.int .i64 e, .bool b, .slice x]) fun h' => ob (h'.cellsAt i 0 3) fun cs => asCons cs fun v1 l1 => chkInt .i64 v1 fun n => asCons l1 fun v2 l2 => chkBool v2 fun m => asCons l2 fun v3 l3 => chkSl v3 fun y => asNil l3 <| K n m y h' := by
  refine put_i e0 (by simp [hl]) fun h' e' f' => ob_all e' rfl ?_
  simp only [asCons_cons, chkInt_int, chkBool_bool, chkSl_slice, asNil_nil]
  exact hk h' f'

theorem region_Scan_ok {x : Option Sl} {px : List (Option Sl)} {ls : List (List UInt8)} (hll : ∀ l ∈ ls, l.length < 100000) {h : AH} (hm : Mat h x px ls) (hb : ls.length < 1000000) {K : Int → Bool → Option Sl → Bool → AH → Prop} (hk : ScanK h ls K) : region_Scan x h K := by
  refine region_Scan.go ?_
  unfold region_Scanw
  refine new_i fun i3 h2 e3 f2 l3 => ?_
  refine region_look_ok (fun l hl => by have := hll l hl; omega) (hm.kept f2) hb fun i ims xs h5 sc f5 li hq => ?_
  have hf2 := f2.len
  have i3lt := (List.getElem?_eq_some_iff.1 e3).1
  simp only [ob_some, cell_of sc.main, List.getElem?_cons_zero, chkSl_slice]
  rw [sc.lenO]
  have f5' := f2.trans f5
  have e35 := f5.kept e3
  -- the end, where there is none
  have fail : ∀ (hx : AH) (c : List AV), hx[i3]? = some (.cells c false) → c.length = 3 → Fr [] h hx → scanS ls = none →
      ob (hx.puts i3 0 [.int .i64 0, .bool false, .slice none]) fun h' => ob (h'.cellsAt i3 0 3) fun cs => asCons cs fun v1 l1 => chkInt .i64 v1 fun n => asCons l1 fun v2 l2 => chkBool v2 fun m => asCons l2 fun v3 l3 => chkSl v3 fun y => asNil l3 <| K n m y false h' :=
    fun hx c ec hc fx hs => retR (K := fun n m y h' => K n m y false h') ec hc fun h' f' => hk.no hs h' (fx.tr f' (by simpa using l3))
  cases ls with
  | nil =>
    rw [br_eq (by simp)]
    exact fail h5 _ e35 rfl f5' rfl
  | cons l0 rest =>
  rw [br_neq (by simp; omega)]
  have hn0 : 0 < ((l0 :: rest).take 16).length := by simp
  have h0 : ((l0 :: rest).take 16)[0]? = some l0 := rfl
  have hll16 : ∀ l ∈ (l0 :: rest).take 16, l.length < 100000 := fun l hl => hll l (List.mem_of_mem_take hl)
  have hn16 : ((l0 :: rest).take 16).length ≤ 16 := by simp; omega
  generalize hls : (l0 :: rest).take 16 = l16 at sc hn0 h0 hll16 hn16
  have hscan : scanS (l0 :: rest) = if saysB l16 (ifOk l0 (pEp l0)) 0 1 0 1 = true ∧ pLoad l0 = [] then
      match (if 0 < lastTo l16 l16.length then scanSeal l16 (ifOk l0 (pEp l0)) (lastTo l16 l16.length) else none) with
      | some l => some (ifOk l0 (pEp l0), true, l)
      | none => some (ifOk l0 (pEp l0), false, eachS l16 (ifOk l0 (pEp l0)) (lastTo l16 l16.length) (lastTo l16 l16.length) 1)
    else none := by unfold scanS; rw [hls]
  have hlast := lastTo_lt l16 l16.length hn0
  have hlen := sc.lenO
  obtain ⟨s, rfl⟩ : ∃ s, ims = some s := by
    cases ims with
    | none => simp [lenO] at hlen; omega
    | some s => exact ⟨s, rfl⟩
  have hsl : s.len = l16.length := hlen
  have hlx : 0 < xs.length := by rw [sc.len]; exact hn0
  have c7 := cells7 sc.im sc.len (List.getElem?_eq_getElem hlx) h0
  simp only [ob_some]
  refine need_i (by omega) ?_
  refine ob_i (c7.1 3 (by decide)) ?_
  rw [chkInt_int]
  refine put1_i sc.main (by simp) fun h28 e28 f28 => ?_
  simp only [List.set_cons_zero, List.set_cons_succ, Nat.zero_add] at e28
  have f28' : Fr [] h h28 := f5'.tr f28 (by simp; omega)
  have ni : i ≠ i3 := by omega
  have e328 := f28.keep e35 (by simpa using ni.symm)
  have hq' : ∀ q, q ∈ slId (some s) → q ∉ [i] := fun q h1 h2 => by simp at h2; exact (hq q (.inl (slId_ids q h1))).2 h2
  have sc28 : Scn h28 i (some s) xs l16 (ifOk l0 (pEp l0)) (lastTo l16 l16.length) :=
    ⟨e28, sc.im.fr f28 hq', sc.len, pay_fr sc.pay f28 fun x hx q h1 h2 => by simp at h2; exact (hq q (.inr ⟨x, hx, h1⟩)).2 h2⟩
  refine region_says_ok sc28 (fun h1 h30 f30 => ?_) fun h1 n y l h30 hn hy hl hz hby f30 => ?_
  · simp only [Bool.not_false, br_true]
    exact fail h30 _ (f30.kept e328) rfl (f28'.trans f30) (by rw [hscan, if_neg (by simp [h1])])
  simp only [Bool.not_true, br_false]
  obtain rfl : n = 0 := by omega
  rw [h0] at hl
  cases hl
  rw [By.len hby]
  have e330 := f30.kept e328
  have f30' := f28'.trans f30
  refine br_dec (fun h2 => ?_) fun h2 => ?_
  · exact fail h30 _ e330 rfl f30' (by rw [hscan, if_neg (fun hc => by rw [hc.2] at h2; simp at h2)])
  have hnil : pLoad l0 = [] := List.length_eq_zero_iff.1 (by omega)
  rw [if_pos ⟨h1, hnil⟩] at hscan
  have sc30 := sc28.kept f30
  simp only [ob_some, Nat.zero_add, cell_of sc30.main, List.getElem?_cons_zero, List.getElem?_cons_succ, chkInt_int]
  -- without a seal
  have each : ∀ hx, Fr [] h30 hx → scanS (l0 :: rest) = some (ifOk l0 (pEp l0), false, eachS l16 (ifOk l0 (pEp l0)) (lastTo l16 l16.length) (lastTo l16 l16.length) 1) →
      hold hx 0 fun h76 => ob (some (i, 0)) fun a77 => ob (AH.cell h76 a77.1 (a77.2 + 1)) fun v78 => chkInt .i64 v78 fun n79 => region_scanner_each (some (i, 0)) 61 [.ptr (some (i, 0))] [] h76 fun r82 h81 =>
        guardR (Req.ok h81 (.cells a77.1 (a77.2 + 1) 1 [.int .i64 n79]) && true) <| ob (AH.puts h81 i3 0 [.int .i64 n79, .bool false, .slice r82]) fun h83 => ob (AH.cellsAt h83 i3 0 3) fun cs84 => asCons cs84 fun v85 l86 => chkInt .i64 v85 fun n87 => asCons l86 fun v88 l89 => chkBool v88 fun b90 => asCons l89 fun v91 l92 => chkSl v91 fun x93 => asNil l92 <| K n87 b90 x93 true h83 := by
    intro hx fx hS
    refine hold0_i ?_
    have scx := sc30.kept fx
    simp only [ob_some, Nat.zero_add, cell_of scx.main, List.getElem?_cons_zero, List.getElem?_cons_succ, chkInt_int]
    refine region_each_ok scx hlast (by omega) fun x' h81 o81 f81 i81 => ?_
    have sc81 := scx.kept f81
    refine guardR_i ?_ ?_
    · rw [Bool.and_true]; exact req_cell (by rw [cell_of sc81.main]; rfl)
    have f81' := (f30'.trans fx).trans f81
    have hlx := (f30'.trans fx).len
    have h3x := (List.getElem?_eq_some_iff.1 (fx.kept e330)).1
    refine retR (K := fun n m y h' => K n m y true h') (f81.kept (fx.kept e330)) rfl fun h' f' => hk.yes _ _ _ hS x' h' (o81.slAt.fr f' fun q h1 h2 => ?_) (f81'.tr f' (by simpa using l3)) fun q h1 => by have := i81 q h1; omega
    have := i81 q (slId_ids q h1)
    simp at h2; omega
  refine br_dec (fun h3 => ?_) fun h3 => ?_
  · rw [if_pos (by omega)] at hscan
    refine region_seal_ok sc30 hll16 (fun hS x' h59 f59 => ?_) fun l hS x' h59 o59 f59 i59 => ?_
    · simp only [br_false]
      rw [hS] at hscan
      exact each h59 f59 hscan
    · simp only [br_true]
      rw [hS] at hscan
      have sc59 := sc30.kept f59
      simp only [ob_some, Nat.zero_add, cell_of sc59.main, List.getElem?_cons_zero, List.getElem?_cons_succ, chkInt_int]
      have hl30 := f30'.len
      have h3x := (List.getElem?_eq_some_iff.1 e330).1
      refine retR (K := fun n m y h' => K n m y true h') (f59.kept e330) rfl fun h' f' => hk.yes _ _ _ hscan x' h' (o59.slAt.fr f' fun q h1 h2 => ?_) ((f30'.trans f59).tr f' (by simpa using l3)) fun q h1 => by have := i59 q h1; omega
      have := i59 q (slId_ids q h1)
      simp at h2; omega
  · rw [if_neg (by omega)] at hscan
    exact each h30 (.refl _ _) hscan

/-! Parts -/

/-- An item's payloads, from the i-th on. -/
def partsS (ls : List (List UInt8)) (page pages : Int) : Nat → Nat → Option (List (List UInt8))
  | 0, i => if (i : Int) < pages then none else some []
  | n + 1, i => if (i : Int) < pages then (if page < 0 ∨ (ls.length : Int) ≤ page + i then none else
      if parseE (ls.getD (page.toNat + i) []) = 0 then (partsS ls page pages n (i + 1)).map (pLoad (ls.getD (page.toNat + i) []) :: ·) else none) else some []

/-- A list of bytes that was made. -/
structure MatO (h0 h : AH) (x : Option Sl) (xs : List (Option Sl)) (ls : List (List UInt8)) : Prop where
  own : Own h 1 x (slCells xs)
  ins : Bys h xs ls
  ids : ∀ q ∈ ids x, h0.length ≤ q
  new : ∀ y ∈ xs, ∀ q ∈ slId y, h0.length ≤ q ∧ q ∉ Go.Abs.ids x
theorem MatO.mat {h0 h : AH} {x : Option Sl} {xs : List (Option Sl)} {ls : List (List UInt8)} (a : MatO h0 h x xs ls) : Mat h x xs ls := ⟨a.own.slAt, a.ins⟩
theorem MatO.nil (h0 h : AH) : MatO h0 h none [] [] := ⟨rfl, trivial, by simp [Go.Abs.ids], by simp⟩
theorem Bys.lt {h : AH} {xs : List (Option Sl)} {ls : List (List UInt8)} (a : Bys h xs ls) : ∀ y ∈ xs, ∀ q ∈ slId y, q < h.length := by
  intro y hy q hq
  obtain ⟨m, hm, rfl⟩ := List.mem_iff_getElem.1 hy
  obtain ⟨l, _, hb⟩ := All2.get a m _ (List.getElem?_eq_getElem hm)
  exact SlAt.lt hb (by decide) q hq
/-- One more. -/
theorem MatO.snoc {h0 h : AH} {x : Option Sl} {xs : List (Option Sl)} {ls : List (List UInt8)} (a : MatO h0 h x xs ls) {h' : AH} (f : Fr [] h h') (h00 : h0.length ≤ h.length) {z : Option Sl} {l : List UInt8} (hz : By h' z l) (hzi : ∀ q ∈ slId z, h.length ≤ q)
    {x' : Option Sl} {h'' : AH} (o : Own h'' 1 x' (slCells xs ++ slCells [z])) (f' : Fr (Go.Abs.ids x) h' h'') (i' : ∀ q ∈ Go.Abs.ids x', q ∈ Go.Abs.ids x ∨ h'.length ≤ q) : MatO h0 h'' x' (xs ++ [z]) (ls ++ [l]) := by
  have hxlt : ∀ q ∈ Go.Abs.ids x, q < h.length := a.own.lt
  have hfl := f.len
  refine ⟨by simpa [slCells] using o, All2.append (Bys.fr (a.ins.kept f) f' fun y hm q h1 => (a.new y hm q h1).2) ⟨hz.fr f' fun q h1 hm => ?_, trivial⟩, fun q hm => ?_, fun y hm q h1 => ?_⟩
  · have := hzi q h1; have := hxlt q hm; omega
  · rcases i' q hm with h1 | h1
    · exact a.ids q h1
    · omega
  · have hy : q < h'.length ∧ h0.length ≤ q ∧ q ∉ Go.Abs.ids x := by
      rcases List.mem_append.1 hm with h2 | h2
      · have := a.ins.lt y h2 q h1
        exact ⟨by omega, a.new y h2 q h1⟩
      · simp at h2
        subst h2
        have := SlAt.lt hz (by decide) q h1
        have := hzi q h1
        exact ⟨by omega, by omega, fun hm => by have := hxlt q hm; omega⟩
    refine ⟨hy.2.1, fun hm' => ?_⟩
    rcases i' q hm' with h5 | h5
    · exact hy.2.2 h5
    · omega

theorem region_Parts_L0_ok {ls : List (List UInt8)} (hln : ls.length < 100000) (hll : ∀ l ∈ ls, l.length < 100000) {z : Option Sl} {px : List (Option Sl)} {i6 : Nat} {kind page pages : Int} {h0 : AH} (hm0 : Mat h0 z px ls) {hi : AH} (f0 : Fr [] h0 hi) (h6 : hi[i6]? = some (.cells [.int .i64 kind, .int .i64 page, .int .i64 pages] false)) {Kr K0 : AV → Option Sl → AH → Prop} {R : Option (List (List UInt8))}
    (hk : ∀ L, R = some L → ∀ x' xs h', MatO hi h' x' xs L → Fr [] h0 h' → K0 .bot x' h') (hbad : R = none → ∀ x' h', Fr [] h0 h' → Kr (.slice none) x' h') :
    ∀ (n k : Nat) (acc : List (List UInt8)) (x : Option Sl) (xs : List (Option Sl)) (h : AH), k + n = ls.length + 1 → acc.length = k → Fr [] hi h → MatO hi h x xs acc → (partsS ls page pages n k).map (acc ++ ·) = R → region_Parts_L0 z (some (i6, 0)) x (k : Int) h Kr K0
  | n, k, acc, x, xs, h, hn, ha, f, m, hR => by
    have e6 := f.kept h6
    have f0' := f0.trans f
    refine region_Parts_L0.go ?_
    unfold region_Parts_L0w
    simp only [ob_some, Nat.zero_add, cell_of e6, List.getElem?_cons_zero, List.getElem?_cons_succ, chkInt_int]
    refine br_dec (fun h1 => ?_) fun h1 => ?_
    case refine_2 =>
      have : partsS ls page pages n k = some [] := by cases n <;> (unfold partsS; rw [if_neg h1])
      rw [this] at hR
      simp at hR
      exact hk acc hR.symm x xs h m f0'
    have hm := hm0.kept f0'
    rw [hm.len]
    refine br_dec (fun h2 => ?_) fun h2 => ?_
    · refine hbad ?_ _ _ f0'
      cases n with
      | zero => unfold partsS at hR; rw [if_pos h1] at hR; exact hR.symm
      | succ n => unfold partsS at hR; rw [if_pos h1, if_pos (.inl h2)] at hR; exact hR.symm
    rw [wrap_i64 (by omega) (by omega)]
    refine br_dec (fun h3 => ?_) fun h3 => ?_
    · refine hbad ?_ _ _ f0'
      cases n with
      | zero => unfold partsS at hR; rw [if_pos h1] at hR; exact hR.symm
      | succ n => unfold partsS at hR; rw [if_pos h1, if_pos (.inr (by omega))] at hR; exact hR.symm
    match n, hn, hR with
    | 0, hn, hR => omega
    | n + 1, hn, hR =>
    unfold partsS at hR
    rw [if_pos h1, if_neg (by omega)] at hR
    obtain ⟨pg, rfl⟩ := Int.eq_ofNat_of_zero_le (show 0 ≤ page by omega)
    rw [wrap_i64 (by omega) (by omega), show (pg : Int) + (k : Int) = ((pg + k : Nat) : Int) by omega]
    rw [Int.toNat_natCast] at hR
    have hlt : pg + k < ls.length := by omega
    have hlen := hm.len
    obtain ⟨s, rfl⟩ : ∃ s, z = some s := by
      cases z with
      | none => simp [lenO] at hlen; omega
      | some s => exact ⟨s, rfl⟩
    simp only [ob_some]
    refine mat_i hm (pg + k) rfl hlt fun y hy hby => ?_
    have hyl := hll _ (List.getElem_mem hlt)
    have hgd : ls.getD (pg + k) [] = ls[pg + k] := getD_of (List.getElem?_eq_getElem hlt)
    rw [hgd] at hR
    refine page_Parse_ok hby (by omega) fun x' h36 p1 p2 f36 i36 => ?_
    refine new_i fun i45 h44 e44 f44 l44 => put_i e44 rfl fun h46 e46 f46 => ?_
    have f46' : Fr [] h h46 := (f36.trans f44).tr f46 (by have := f36.len; simp; omega)
    refine br_ine (fun h4 => ?_) fun h4 => ?_
    · rw [if_neg h4] at hR
      exact hbad hR.symm _ _ (f0'.trans f46')
    rw [if_pos h4] at hR
    refine new_i fun i48 h47 e47 f47 l47 => ?_
    have f47' := f46'.trans f47
    have hs47 : SlAt h47 1 (some ⟨i48, 0, 1, 1, none⟩) (slCells [x']) := SlAt.made e47 rfl
    have el : lenO x = k := by have := m.mat.len; omega
    refine append_own (bytes := 24) (m.own.kept f47') (fun K' => aNews_at hs47 (by decide) K') (by simp [lenO, slCells]) (slCells_scal _) (by show (lenO x + 1) * 24 ≤ _; omega) fun x'' h52 o52 f52 i52 => ?_
    have hz47 : By h47 x' (pLoad ls[pg + k]) := (p1 h4).kept ((f44.tr f46 (by simpa using l44)).trans f47)
    have m' := m.snoc f47' f.len hz47 i36 o52 f52 i52
    rw [wrap_i64 (by omega) (by omega)]
    refine region_Parts_L0_ok hln hll hm0 f0 h6 hk hbad n (k + 1) (acc ++ [pLoad ls[pg + k]]) x'' (xs ++ [x']) h52 (by omega) (by simp [ha]) ((f.trans f47').tr f52 m.ids) m' ?_
    rw [← hR]
    cases partsS ls pg pages n (k + 1) <;> simp

/-- The answer of a Parts. -/
structure PartsK (h : AH) (ls : List (List UInt8)) (page pages : Int) (K : Option Sl → AH → Prop) : Prop where
  no : partsS ls page pages (ls.length + 1) 0 = none → ∀ h', Fr [] h h' → K none h'
  yes : ∀ L, partsS ls page pages (ls.length + 1) 0 = some L → ∀ x' xs h', MatO h h' x' xs L → Fr [] h h' → K x' h'

theorem MatO.mono {h0 h1 h : AH} {x : Option Sl} {xs : List (Option Sl)} {ls : List (List UInt8)} (a : MatO h1 h x xs ls) (hl : h0.length ≤ h1.length) : MatO h0 h x xs ls :=
  ⟨a.own, a.ins, fun q hq => by have := a.ids q hq; omega, fun y hy q hq => ⟨by have := (a.new y hy q hq).1; omega, (a.new y hy q hq).2⟩⟩

theorem region_Parts_ok {ls : List (List UInt8)} (hln : ls.length < 100000) (hll : ∀ l ∈ ls, l.length < 100000) {z : Option Sl} {px : List (Option Sl)} {kind page pages : Int} {h : AH} (hm : Mat h z px ls) {K : Option Sl → AH → Prop} (hk : PartsK h ls page pages K) : region_Parts z kind page pages h K := by
  refine region_Parts.go ?_
  unfold region_Partsw
  refine new_i fun i6 h5 e5 f5 l5 => ?_
  refine region_Parts_L0_ok hln hll hm f5 e5 (R := partsS ls page pages (ls.length + 1) 0) (fun L hL x' xs h' m f => hk.yes L hL x' xs h' (m.mono f5.len) f) (fun hL x' h' f => hk.no hL h' f) (ls.length + 1) 0 [] none [] h5 (by omega) rfl (.refl _ _) (MatO.nil _ _) (by simp)

end Go.Abs
