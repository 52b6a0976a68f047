/- A page is programmed (no crash armed); a region is written and loaded. -/
import Derived.Test.YtdpecfeofcibhaaB14
namespace Go.Abs

def FS.blk (F : FS) (b : Int) : FB := F.blks.getD b.toNat ⟨[], 0, 0, false⟩
/-- Why a page is not programmed. -/
def FS.progE (F : FS) (b p : Int) (n : Nat) : Int :=
  if F.findE b p ≠ 0 then F.findE b p else if n ≠ F.S then 2 else if (F.blk b).bad = true then 10 else if (F.blk b).next ≠ p then 9 else 0
/-- A page is programmed. -/
def FS.prog (F : FS) (b p : Int) (data : List UInt8) : FS :=
  { F with blks := F.blks.set b.toNat { F.blk b with pages := (F.blk b).pages.set p.toNat data, next := p + 1 }, bytes := IntKind.wrap .i64 (F.bytes + F.S) }

/-- May a page be programmed here? -/
def FS.progOk (F : FS) : Prop := F.after = 0
/-- A page is programmed: what is answered, what the device is then. -/
def FS.program (F : FS) (b p : Int) (data : List UInt8) : Int × FS := if F.progE b p data.length ≠ 0 then (F.progE b p data.length, F) else (0, F.prog b p data)
theorem FS.progOk_program {F : FS} (h : F.progOk) (b p : Int) (data : List UInt8) : (F.program b p data).2.progOk := by
  unfold FS.program
  split
  · exact h
  · exact h
theorem FWf.program {F : FS} (w : FWf F) (b p : Int) (data : List UInt8) : FWf (F.program b p data).2 := by
  unfold FS.program
  split
  · exact w
  · exact ⟨by simp [FS.prog, w.blen], w.B, w.P, w.S, w.after⟩
theorem FS.program_S (F : FS) (b p : Int) (data : List UInt8) : (F.program b p data).2.S = F.S ∧ (F.program b p data).2.P = F.P ∧ (F.program b p data).2.B = F.B ∧ (F.program b p data).2.L = F.L := by
  unfold FS.program
  split <;> exact ⟨rfl, rfl, rfl, rfl⟩

theorem FS.blk_eq {F : FS} {k : Nat} (hk : k < F.blks.length) : F.blk (k : Int) = F.blks[k] := by
  unfold FS.blk; rw [Int.toNat_natCast, List.getD_eq_getElem?_getD, List.getElem?_eq_getElem hk]; rfl

theorem cells5 {k : List AV} {a b c d e : AV} (o : Nat) : ([a, b, c, d, e] : List AV)[o]? = ([a, b, c, d, e] : List AV)[o]? := rfl

theorem flash_Program_ok0 {h : AH} {L : FL} {F : FS} (a : FRep h L F) (w : FWf F) (ha : F.after = 0) {b p : Int} {x : Option Sl} {data : List UInt8} (hx : By h x data) (hxs : ∀ i ∈ slId x, i ∉ L.fp) {K : Int → AH → Prop}
    (hno : F.progE b p data.length ≠ 0 → K (F.progE b p data.length) h) (hyes : F.progE b p data.length = 0 → ∀ h' L', FStep h h' L L' (F.prog b p data) → K 0 h') : flash_Flash_Program (some (L.i, 0)) b p x h K := by
  refine flash_Flash_Program.go ?_
  unfold flash_Flash_Programw
  refine flash_find_ok a w (fun he => ?_) fun he k q bl hb hp hk hq hbl => ?_
  · rw [br_ne_neq he]
    have : F.progE b p data.length = F.findE b p := if_pos he
    rw [this] at hno; exact hno he
  rw [br_ne_eq rfl]
  have hfe : ¬(F.findE b p ≠ 0) := by simp [he]
  subst hb hp
  have hkF : k < F.blks.length := by rw [w.blen]; exact hk
  have hkL : k < L.bl.length := by rw [a.blen]; exact hkF
  have r := a.blk k bl _ hbl (List.getElem?_eq_getElem hkF)
  have hS := w.S
  have hP := w.P
  have hbk := FS.blk_eq hkF
  simp only [ob_some, a.cell_, mainCells, List.getElem?_cons_zero, List.getElem?_cons_succ, chkInt_int, Nat.reduceAdd, Nat.zero_add]
  rw [By.len hx]
  refine br_ine (fun hn => ?_) fun hn => ?_
  · have : F.progE k q data.length = 2 := by unfold FS.progE; rw [if_neg hfe, if_pos (by omega)]
    rw [this] at hno; exact hno (by decide)
  simp only [ob_some, cell_of r.blk, List.getElem?_cons_zero, List.getElem?_cons_succ, chkBool_bool, chkInt_int, Nat.zero_add]
  refine br_intro (fun hd => ?_) fun hd => ?_
  · have : F.progE k q data.length = 10 := by unfold FS.progE; rw [if_neg hfe, if_neg (by omega), hbk, if_pos hd]
    rw [this] at hno; exact hno (by decide)
  refine br_ine (fun hn2 => ?_) fun hn2 => ?_
  · have : F.progE k q data.length = 9 := by unfold FS.progE; rw [if_neg hfe, if_neg (by omega), hbk, if_neg (by simp [hd]), if_pos hn2]
    rw [this] at hno; exact hno (by decide)
  have hE : F.progE k q data.length = 0 := by unfold FS.progE; rw [if_neg hfe, if_neg (by omega), hbk, if_neg (by simp [hd]), if_neg (by simp [hn2])]
  have hyes := hyes hE
  refine flash_blank_ok (by omega) fun im h22 e22 f22 l22 => ?_
  have r22 := r.fr f22 (by simp) (by simp) (by simp)
  simp only [ob_some, cell_of r22.blk, List.getElem?_cons_zero, List.getElem?_cons_succ, chkSl_slice, chkInt_int, Nat.zero_add]
  refine need_i (by omega) ?_
  rw [Int.toNat_natCast, Nat.mul_one]
  refine put1_i r22.arr (by rw [List.length_map, r22.len]; exact hq) fun h28 e28 f28 => ?_
  have jb := a.jpid hbl
  have ej28 := f28.keep r22.blk (by simpa using jb.1)
  simp only [ob_some, cell_of ej28, List.getElem?_cons_zero, List.getElem?_cons_succ, chkInt_int, Nat.zero_add]
  refine put1_i ej28 (by simp) fun h33 e33 f33 => hold0_i ?_
  have em33 := f33.keep (f28.keep (f22.kept a.main) (by simpa using jb.2.2.1.symm)) (by simpa using jb.2.1.symm)
  simp only [ob_some, cell_of em33, List.getElem?_cons_zero, List.getElem?_cons_succ, chkInt_int, Nat.reduceAdd, Nat.zero_add]
  refine put1_i em33 (by simp) fun h42 e42 f42 => ?_
  -- no tear
  refine flash_tearer_tears.go ?_
  unfold flash_tearer_tearsw
  have e42' : h42[L.i]? = some (.cells (mainCells (F.prog k q data) L) false) := by
    rw [e42]; rfl
  have ea : (F.prog k q data).after = 0 := ha
  simp only [ob_some, cell_of e42', mainCells, List.getElem?_cons_zero, chkInt_int, ea]
  rw [br_eq rfl]
  simp only [Bool.not_false, br_true, onSl_some]
  have imlt := (List.getElem?_eq_some_iff.1 e22).1
  have hlt := a.fp_lt
  have mfp : ∀ i, i = L.i ∨ i = bl.j ∨ i = bl.pid → i ∈ L.fp ∧ i < h.length := fun i hi => by
    have : i ∈ L.fp := by
      rcases hi with h1 | h1 | h1
      · rw [h1]; simp [FL.fp]
      · rw [h1]; exact FL.mem_j hbl
      · rw [h1]; exact FL.mem_pid hbl
    exact ⟨this, hlt i this⟩
  have f42' : Fr [L.i, bl.j, bl.pid] h h42 := ((f22.nil.tr' f28 fun i hi => by simp at hi; simp [hi]).tr' f33 fun i hi => by simp at hi; simp [hi]).tr' f42 fun i hi => by simp at hi; simp [hi]
  have hx42 : By h42 x data := hx.fr f42' fun i hi hm => by
    simp at hm
    exact hxs i hi (mfp i hm).1
  rw [aNews_at hx42 (by decide), bys_scal, By.len hx42]
  simp only [guardR_true]
  have hdl : data.length = F.S := by omega
  rw [hdl, Nat.min_self, if_neg (by omega), Nat.mul_one]
  have nim : im ≠ L.i ∧ im ≠ bl.j ∧ im ≠ bl.pid := ⟨fun e => by have := (mfp im (.inl e)).2; omega, fun e => by have := (mfp im (.inr (.inl e))).2; omega, fun e => by have := (mfp im (.inr (.inr e))).2; omega⟩
  have eim42 := f42.keep (f33.keep (f28.keep e22 (by simpa using nim.2.2)) (by simpa using nim.2.1)) (by simpa using nim.1)
  refine puts_i eim42 (by simp [blankP, hdl]) fun h50 e50 f50 => ?_
  have e50' : h50[im]? = some (.cells (bys data) false) := by
    rw [e50]
    congr 2
    rw [List.take_zero, List.nil_append, List.take_of_length_le (by simp [hdl]), List.drop_of_length_le (by simp [blankP, hdl]), List.append_nil]
  have f50' : Fr [L.i, bl.j, bl.pid] h h50 := f42'.tr' f50 fun i hi => by simp at hi; right; omega
  have hm50 := f50.keep e42' (by simpa using nim.1.symm)
  have hbrep : BRep h50 F.P F.S { bl with xs := bl.xs.set q (some ⟨im, 0, F.S, F.S, none⟩) } { F.blks[k] with pages := F.blks[k].pages.set q data, next := (q : Int) + 1 } := by
    refine ⟨?_, ?_, by simp [r.len], by simp [r.plen], fun p' x' l' hx' hl' => ?_⟩
    · refine f50.keep (f42.keep ?_ (by simpa using jb.2.1)) (by simpa using nim.2.1.symm)
      rw [e33]
      have : IntKind.wrap .i64 (F.blks[k].next + 1) = (q : Int) + 1 := by rw [hn2, wrap_i64 (by omega) (by omega)]
      rw [this]; rfl
    · refine f50.keep (f42.keep (f33.keep ?_ (by simpa using jb.1.symm)) (by simpa using jb.2.2.1)) (by simpa using nim.2.2.symm)
      rw [e28]
      congr 2
      exact List.map_set.symm
    · simp only at hx' hl'
      have hqx : q < bl.xs.length := by rw [r.len]; exact hq
      have hqp : q < F.blks[k].pages.length := by rw [r.plen]; exact hq
      by_cases hpq : p' = q
      · subst hpq
        rw [List.getElem?_set_self hqx] at hx'
        rw [List.getElem?_set_self hqp] at hl'
        cases hx'; cases hl'
        exact ⟨SlAt.made e50' (by simp [hdl]), hdl⟩
      · rw [List.getElem?_set_ne (by omega)] at hx' hl'
        obtain ⟨h1, h2⟩ := r.page p' x' l' hx' hl'
        refine ⟨h1.fr f50' fun i hi hm => ?_, h2⟩
        simp at hm
        exact a.sep i (FL.mem_xs hbl (List.mem_of_getElem? hx') hi) (mfp i hm).1
  refine hyes h50 _ (a.upd hbl f50' hm50 rfl rfl ?_ rfl hbrep fun x' hx' i hi => ?_)
  · show F.blks.set _ _ = _
    rw [Int.toNat_natCast, hbk, Int.toNat_natCast]
  · rcases List.mem_or_eq_of_mem_set hx' with h1 | h1
    · exact .inl (FL.mem_xs hbl h1 hi)
    · subst h1
      have := slId_ids i hi
      simp [ids] at this; right; omega

theorem flash_Program_ok {h : AH} {L : FL} {F : FS} (a : FRep h L F) (w : FWf F) (ho : F.progOk) {b p : Int} {x : Option Sl} {data : List UInt8} (hx : By h x data) (hxs : ∀ i ∈ slId x, i ∉ L.fp) {K : Int → AH → Prop}
    (hk : ∀ h' L', FStep h h' L L' (F.program b p data).2 → K (F.program b p data).1 h') : flash_Flash_Program (some (L.i, 0)) b p x h K := by
  unfold FS.program at hk
  refine flash_Program_ok0 a w ho hx hxs (fun hn => ?_) fun he h' L' st => ?_
  · rw [if_pos hn] at hk
    exact hk h L (.same a (.refl _ _))
  · rw [if_neg (by simp [he])] at hk
    exact hk h' L' st

/-! ## Regions are written -/

/-- A page of a region is programmed. -/
def FS.page (F : FS) (b : Int) (k p q e g : Int) (l : List UInt8) : Int × FS :=
  if imgE k p q e g l.length F.S ≠ 0 then (imgE k p q e g l.length F.S, F) else F.program b g (image k.toNat p.toNat q.toNat e.toNat g.toNat l F.S)
theorem FS.page_ok {F : FS} (h : F.progOk) (b k p q e g : Int) (l : List UInt8) : (F.page b k p q e g l).2.progOk := by
  unfold FS.page; split
  · exact h
  · exact FS.progOk_program h _ _ _
theorem FWf.page {F : FS} (w : FWf F) (b k p q e g : Int) (l : List UInt8) : FWf (F.page b k p q e g l).2 := by
  unfold FS.page; split
  · exact w
  · exact w.program _ _ _
theorem FS.page_S (F : FS) (b k p q e g : Int) (l : List UInt8) : (F.page b k p q e g l).2.S = F.S ∧ (F.page b k p q e g l).2.P = F.P ∧ (F.page b k p q e g l).2.B = F.B ∧ (F.page b k p q e g l).2.L = F.L := by
  unfold FS.page; split
  · exact ⟨rfl, rfl, rfl, rfl⟩
  · exact FS.program_S _ _ _ _

theorem region_program_ok {h : AH} {L : FL} {F : FS} (a : FRep h L F) (w : FWf F) (ho : F.progOk) {b k p q e g : Int} {x : Option Sl} {l : List UInt8} (hx : By h x l) (hl : l.length < 1000000) {K : Int → AH → Prop}
    (hk : ∀ h' L', FStep h h' L L' (F.page b k p q e g l).2 → K (F.page b k p q e g l).1 h') : region_program (some (L.i, 0)) b k p q e g x h K := by
  refine region_program.go ?_
  unfold region_programw
  refine new_i fun i10 h9 e9 f9 l9 => hold0_i (ob_all e9 rfl ?_)
  rw [ints5_eq]
  refine flash_Config_ok (a.kept f9) fun h19 f19 => ?_
  have e19 := f19.kept e9
  refine guardR_i ?_ ?_
  · rw [Bool.and_true]; exact req_cells (cellsAt_all e19 rfl)
  have f19' := f9.trans f19
  have hS := w.S
  refine page_Image_ok (hx.kept f19') hl (fun hne h25 f25 => ?_) fun h0 x' h25 o25 f25 i25 => ?_
  · rw [br_ne_neq hne]
    have hp : F.page b k p q e g l = (imgE k p q e g l.length F.S, F) := if_pos hne
    rw [hp] at hk
    exact hk h25 L (.same a (f19'.trans f25))
  · rw [br_ne_eq rfl]
    have hp : F.page b k p q e g l = F.program b g (image k.toNat p.toNat q.toNat e.toNat g.toNat l F.S) := if_neg (by simp [h0])
    rw [hp] at hk
    have e25 := f25.kept e19
    simp only [cell_of e25, List.getElem?_cons_zero, List.getElem?_cons_succ, ob_some, chkInt_int]
    have f25' := f19'.trans f25
    rw [Int.toNat_natCast] at o25
    refine flash_Program_ok (a.kept f25') w ho o25.slAt (fun i hi hm => ?_) fun h' L' st => hk h' L' (st.pre f25')
    have := i25 i (slId_ids i hi)
    have := a.fp_lt i hm
    have := f19'.len
    omega

def FS.open_ (F : FS) (b e : Int) : Int × FS := F.page b 1 0 1 e 0 []

theorem region_Open_ok {h : AH} {L : FL} {F : FS} (a : FRep h L F) (w : FWf F) (ho : F.progOk) {b e : Int} {K : Int → AH → Prop} (hk : ∀ h' L', FStep h h' L L' (F.open_ b e).2 → K (F.open_ b e).1 h') : region_Open (some (L.i, 0)) b e h K := by
  refine region_Open.go ?_
  unfold region_Openw
  exact region_program_ok a w ho (show By h none [] from rfl) (by simp) hk

/-! ## Lists of lists of bytes -/

/-- Slices' cells. -/
def slCells (xs : List (Option Sl)) : List AV := xs.map .slice
/-- Bytes that slices have. -/
def Bys (h : AH) (xs : List (Option Sl)) (ls : List (List UInt8)) : Prop := All2 (fun x l => By h x l) xs ls
/-- A slice of slices of bytes. -/
structure Mat (h : AH) (x : Option Sl) (xs : List (Option Sl)) (ls : List (List UInt8)) : Prop where
  out : SlAt h 1 x (slCells xs)
  ins : Bys h xs ls
theorem Bys.len {h : AH} {xs : List (Option Sl)} {ls : List (List UInt8)} (a : Bys h xs ls) : xs.length = ls.length := All2.length a
theorem Mat.len {h : AH} {x : Option Sl} {xs : List (Option Sl)} {ls : List (List UInt8)} (a : Mat h x xs ls) : lenO x = ls.length := by
  have := a.out.len; simp [slCells] at this; rw [this]; exact a.ins.len
theorem Bys.fr {h h' : AH} {xs : List (Option Sl)} {ls : List (List UInt8)} (a : Bys h xs ls) {T : List Nat} (f : Fr T h h') (ht : ∀ x ∈ xs, ∀ i ∈ slId x, i ∉ T) : Bys h' xs ls := by
  refine All2.of_get a.len fun i x l hx hl => ?_
  obtain ⟨l', hl', hb⟩ := All2.get a i x hx
  rw [hl] at hl'; cases hl'
  exact hb.fr f (ht x (List.mem_of_getElem? hx))
theorem Bys.kept {h h' : AH} {xs : List (Option Sl)} {ls : List (List UInt8)} (a : Bys h xs ls) (f : Fr [] h h') : Bys h' xs ls := a.fr f (by simp)
theorem Mat.fr {h h' : AH} {x : Option Sl} {xs : List (Option Sl)} {ls : List (List UInt8)} (a : Mat h x xs ls) {T : List Nat} (f : Fr T h h') (h1 : ∀ i ∈ slId x, i ∉ T) (ht : ∀ x ∈ xs, ∀ i ∈ slId x, i ∉ T) : Mat h' x xs ls :=
  ⟨a.out.fr f h1, a.ins.fr f ht⟩
theorem Mat.kept {h h' : AH} {x : Option Sl} {xs : List (Option Sl)} {ls : List (List UInt8)} (a : Mat h x xs ls) (f : Fr [] h h') : Mat h' x xs ls := a.fr f (by simp) (by simp)
theorem Bys.get {h : AH} {xs : List (Option Sl)} {ls : List (List UInt8)} (a : Bys h xs ls) {k : Nat} (hk : k < ls.length) : ∃ x, xs[k]? = some x ∧ By h x ls[k] := by
  have hk' : k < xs.length := by rw [a.len]; exact hk
  obtain ⟨l, hl, hb⟩ := All2.get a k _ (List.getElem?_eq_getElem hk')
  rw [List.getElem?_eq_getElem hk] at hl; cases hl
  exact ⟨_, List.getElem?_eq_getElem hk', hb⟩
theorem slCells_scal (xs : List (Option Sl)) : (slCells xs).all AV.scal = true := by simp [slCells, AV.scal]

/-- One of them. -/
theorem mat_i {h : AH} {s : Sl} {xs : List (Option Sl)} {ls : List (List UInt8)} (a : Mat h (some s) xs ls) {i : Int} (k : Nat) (hi : i = k) (hk : k < ls.length) {K : Option Sl → Prop} (hK : ∀ x, x ∈ xs → By h x ls[k] → K x) :
    need ((0 : Int) ≤ i ∧ i < ((s.len : Nat) : Int)) (ob (AH.cell h s.id (s.off + Int.toNat i * 1)) fun v => chkSl v K) := by
  subst hi
  have hl : s.len = ls.length := a.len
  obtain ⟨x, hx, hb⟩ := a.ins.get hk
  refine need_i (by omega) (ob_i (a := .slice x) ?_ (by rw [chkSl_slice]; exact hK x (List.mem_of_getElem? hx) hb))
  rw [Int.toNat_natCast, Nat.mul_one, a.out.at_ (by simp [slCells, a.ins.len]; exact hk)]
  simp [slCells, hx]

end Go.Abs
