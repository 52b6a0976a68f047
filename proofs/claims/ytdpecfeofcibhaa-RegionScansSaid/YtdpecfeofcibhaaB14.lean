/- A device is asked, and changed. -/
import Derived.Test.YtdpecfeofcibhaaB13
import Derived.Test.YtdpecfeofcibhaaGW0
namespace Go.Abs

structure FWf (F : FS) : Prop where
  blen : F.blks.length = F.B
  B : 2 ≤ F.B ∧ F.B ≤ 16
  P : 4 ≤ F.P ∧ F.P ≤ 16
  S : 64 ≤ F.S ∧ F.S ≤ 512
  after : 0 ≤ F.after ∧ F.after < 9223372036854775808

/-- From one heap to another one: only the device is changed. -/
structure FStep (h h' : AH) (L L' : FL) (F' : FS) : Prop where
  rep : FRep h' L' F'
  i : L'.i = L.i
  fr : Fr L.fp h h'
  newf : ∀ q ∈ L'.fp, q ∈ L.fp ∨ h.length ≤ q
  newr : ∀ q ∈ L'.rd, q ∈ L.rd ∨ h.length ≤ q

theorem FStep.same {h h' : AH} {L : FL} {F : FS} (a : FRep h L F) (f : Fr [] h h') : FStep h h' L L F := ⟨a.kept f, rfl, f.nil, fun _ hq => .inl hq, fun _ hq => .inl hq⟩
theorem FStep.trans {h h' h'' : AH} {L L' L'' : FL} {F' F'' : FS} (a : FStep h h' L L' F') (b : FStep h' h'' L' L'' F'') : FStep h h'' L L'' F'' :=
  ⟨b.rep, b.i.trans a.i, a.fr.tr' b.fr a.newf, fun q hq => (b.newf q hq).elim (a.newf q) fun h1 => .inr (by have := a.fr.len; omega), fun q hq => (b.newr q hq).elim (a.newr q) fun h1 => .inr (by have := a.fr.len; omega)⟩
theorem FStep.pre {h h' h'' : AH} {L L' : FL} {F' : FS} (f : Fr [] h h') (b : FStep h' h'' L L' F') : FStep h h'' L L' F' :=
  ⟨b.rep, b.i, f.nil.trans b.fr, fun q hq => (b.newf q hq).imp id fun h1 => by have := f.len; omega, fun q hq => (b.newr q hq).imp id fun h1 => by have := f.len; omega⟩
theorem FStep.post {h h' h'' : AH} {L L' : FL} {F' : FS} (b : FStep h h' L L' F') (f : Fr [] h' h'') : FStep h h'' L L' F' :=
  ⟨b.rep.kept f, b.i, b.fr.trans f.nil, b.newf, b.newr⟩
/-- Changes of other blocks, which are younger. -/
theorem FStep.post' {h h' h'' : AH} {L L' : FL} {F' : FS} (b : FStep h h' L L' F') {T : List Nat} (f : Fr T h' h'') (hT : ∀ i ∈ T, h.length ≤ i ∧ i ∉ L'.fp ∧ i ∉ L'.rd) : FStep h h'' L L' F' :=
  ⟨b.rep.fr f (fun i hi hm => (hT i hm).2.1 hi) (fun i hi hm => (hT i hm).2.2 hi), b.i, b.fr.tr' f fun i hi => .inr (hT i hi).1, b.newf, b.newr⟩

theorem FRep.i_lt {h : AH} {L : FL} {F : FS} (a : FRep h L F) : L.i < h.length := (List.getElem?_eq_some_iff.1 a.main).1

/-! Distinct blocks -/

theorem nodup_flat {α : Type} {f : α → List Nat} : ∀ {l : List α}, (l.flatMap f).Nodup → (∀ x ∈ l, (f x).Nodup) ∧ l.Pairwise fun x y => ∀ a ∈ f x, a ∉ f y
  | [], _ => ⟨by simp, .nil⟩
  | x :: l, h => by
    rw [List.flatMap_cons, List.nodup_append] at h
    obtain ⟨h1, h2⟩ := nodup_flat h.2.1
    refine ⟨fun y hy => ?_, List.pairwise_cons.2 ⟨fun y hy a ha hb => ?_, h2⟩⟩
    · rcases List.mem_cons.1 hy with rfl | hy
      · exact h.1
      · exact h1 y hy
    · exact h.2.2 a ha a (List.mem_flatMap.2 ⟨y, hy, hb⟩) rfl

theorem FRep.apart {h : AH} {L : FL} {F : FS} (a : FRep h L F) {k k' : Nat} {b b' : BL} (hb : L.bl[k]? = some b) (hb' : L.bl[k']? = some b') (hk : k' ≠ k) : b'.j ≠ b.j ∧ b'.j ≠ b.pid ∧ b'.pid ≠ b.j ∧ b'.pid ≠ b.pid := by
  have nd := a.nodup
  unfold FL.fp at nd
  rw [List.nodup_cons, List.nodup_append, List.nodup_append] at nd
  have := nd.2.2.1.2.1
  have pw := (nodup_flat this).2
  rw [List.pairwise_iff_getElem] at pw
  obtain ⟨h1, e1⟩ := List.getElem?_eq_some_iff.1 hb
  obtain ⟨h2, e2⟩ := List.getElem?_eq_some_iff.1 hb'
  rcases Nat.lt_or_ge k k' with hlt | hge
  · have := pw k k' h1 h2 hlt
    rw [e1, e2] at this
    simp at this
    refine ⟨fun h => this.1.1 h.symm, fun h => this.2.1 h.symm, fun h => this.1.2 h.symm, fun h => this.2.2 h.symm⟩
  · have := pw k' k h2 h1 (by omega)
    rw [e1, e2] at this
    simp at this
    exact ⟨this.1.1, this.1.2, this.2.1, this.2.2⟩
theorem FRep.jpid {h : AH} {L : FL} {F : FS} (a : FRep h L F) {k : Nat} {b : BL} (hb : L.bl[k]? = some b) : b.j ≠ b.pid ∧ b.j ≠ L.i ∧ b.pid ≠ L.i ∧ b.j ∉ ids L.bsl ∧ b.pid ∉ ids L.bsl ∧ b.j ∉ ids L.tsl ∧ b.pid ∉ ids L.tsl := by
  have nd := a.nodup
  unfold FL.fp at nd
  rw [List.nodup_cons, List.nodup_append, List.nodup_append] at nd
  have hm := List.mem_of_getElem? hb
  have m1 : b.j ∈ L.bl.flatMap (fun b => [b.j, b.pid]) := List.mem_flatMap.2 ⟨b, hm, by simp⟩
  have m2 : b.pid ∈ L.bl.flatMap (fun b => [b.j, b.pid]) := List.mem_flatMap.2 ⟨b, hm, by simp⟩
  have := nd.2.2.1.2.1
  have h1 := (nodup_flat this).1 b hm
  simp at h1
  refine ⟨h1, fun e => nd.1 ?_, fun e => nd.1 ?_, fun e => nd.2.2.2 _ e _ (List.mem_append_right _ m1) rfl, fun e => nd.2.2.2 _ e _ (List.mem_append_right _ m2) rfl, fun e => nd.2.2.1.2.2 _ e _ m1 rfl, fun e => nd.2.2.1.2.2 _ e _ m2 rfl⟩
  · rw [← e]; exact List.mem_append_right _ (List.mem_append_right _ m1)
  · rw [← e]; exact List.mem_append_right _ (List.mem_append_right _ m2)
theorem FRep.i_ids {h : AH} {L : FL} {F : FS} (a : FRep h L F) : L.i ∉ ids L.bsl ∧ L.i ∉ ids L.tsl := by
  have nd := a.nodup
  unfold FL.fp at nd
  rw [List.nodup_cons] at nd
  exact ⟨fun e => nd.1 (List.mem_append_left _ e), fun e => nd.1 (List.mem_append_right _ (List.mem_append_left _ e))⟩

/-- The cells of a device's own struct. -/
def mainCells (F : FS) (L : FL) : List AV := [.int .i64 F.after, .int .i64 F.keep, .bool F.down, .int .i64 F.B, .int .i64 F.P, .int .i64 F.S, .int .i64 F.L, .slice L.bsl, .int .i64 F.bytes, .slice L.tsl]

/-- The own struct is changed. -/
theorem FRep.main_ {h h' : AH} {L : FL} {F F' : FS} (a : FRep h L F) (f : Fr [L.i] h h') (hm : h'[L.i]? = some (.cells (mainCells F' L) false)) (e1 : F'.P = F.P) (e2 : F'.S = F.S) (e3 : F'.blks = F.blks) (e4 : F'.torn = F.torn) : FRep h' L F' := by
  have hi := a.i_ids
  refine ⟨hm, a.bown.fr f (fun i hi' hm => ?_), ?_, by rw [e3]; exact a.blen, by rw [e4]; exact a.tlen, fun k b c hb hc => ?_, fun k t c ht hc => ?_, a.nodup, a.sep⟩
  · simp at hm; subst hm; exact hi.1 hi'
  · rw [e4]; exact a.town.fr f fun i hi' hm => by simp at hm; subst hm; exact hi.2 hi'
  · rw [e3] at hc
    rw [e1, e2]
    have j := a.jpid hb
    exact (a.blk k b c hb hc).fr f (by simpa using j.2.1) (by simpa using j.2.2.1) fun x hx i hi' hm => by
      simp at hm; subst hm; exact a.sep _ (FL.mem_xs hb hx hi') (by simp [FL.fp])
  · rw [e4] at hc
    have := a.tn k t c ht hc
    exact ⟨this.1.fr f fun i hi' hm => by simp at hm; subst hm; exact a.sep _ (FL.mem_t ht (.inl hi')) (by simp [FL.fp]), this.2.fr f fun i hi' hm => by simp at hm; subst hm; exact a.sep _ (FL.mem_t ht (.inr hi')) (by simp [FL.fp])⟩

theorem FL.set_fp {L : FL} {k : Nat} {b : BL} (hb : L.bl[k]? = some b) (xs : List (Option Sl)) : FL.fp { L with bl := L.bl.set k { b with xs := xs } } = L.fp := by
  unfold FL.fp
  simp only [List.cons.injEq, true_and]
  congr 2
  rw [List.flatMap_def, List.flatMap_def]
  congr 1
  obtain ⟨hk, e⟩ := List.getElem?_eq_some_iff.1 hb
  refine List.ext_getElem (by simp) fun n h1 h2 => ?_
  simp only [List.getElem_map, List.getElem_set]
  split
  · rename_i he; subst he; rw [e]
  · rfl

theorem FL.set_rd {L : FL} {k : Nat} {b : BL} (hb : L.bl[k]? = some b) {xs : List (Option Sl)} {N : Nat} (hx : ∀ x ∈ xs, ∀ i ∈ slId x, i ∈ L.rd ∨ N ≤ i) : ∀ i, i ∈ FL.rd { L with bl := L.bl.set k { b with xs := xs } } → i ∈ L.rd ∨ N ≤ i := by
  intro i hi
  unfold FL.rd at hi
  simp only [List.mem_append] at hi
  rcases hi with h1 | h1
  · obtain ⟨b', hb', h2⟩ := List.mem_flatMap.1 h1
    obtain ⟨x, hx', h3⟩ := List.mem_flatMap.1 h2
    rcases List.mem_or_eq_of_mem_set hb' with h4 | h4
    · left; unfold FL.rd; rw [List.mem_append]; exact .inl (List.mem_flatMap.2 ⟨b', h4, h2⟩)
    · subst h4; exact hx x hx' i h3
  · left; unfold FL.rd; rw [List.mem_append]; exact .inr h1

/-- A block is changed, and the own struct. -/
theorem FRep.upd {h h' : AH} {L : FL} {F F' : FS} (a : FRep h L F) {k : Nat} {b : BL} {c' : FB} (hb : L.bl[k]? = some b) {xs : List (Option Sl)} (f : Fr [L.i, b.j, b.pid] h h') (hm : h'[L.i]? = some (.cells (mainCells F' L) false))
    (e1 : F'.P = F.P) (e2 : F'.S = F.S) (e3 : F'.blks = F.blks.set k c') (e4 : F'.torn = F.torn) (hr : BRep h' F.P F.S { b with xs := xs } c') (hx : ∀ x ∈ xs, ∀ i ∈ slId x, i ∈ L.rd ∨ h.length ≤ i) :
    FStep h h' L { L with bl := L.bl.set k { b with xs := xs } } F' := by
  have hi := a.i_ids
  have jb := a.jpid hb
  obtain ⟨hk, ek⟩ := List.getElem?_eq_some_iff.1 hb
  have nofp : ∀ i ∈ L.rd, i ∉ [L.i, b.j, b.pid] := fun i hi' hm => a.sep i hi' (by
    simp at hm
    rcases hm with h1 | h1 | h1
    · rw [h1]; simp [FL.fp]
    · rw [h1]; exact FL.mem_j hb
    · rw [h1]; exact FL.mem_pid hb)
  have hfp := FL.set_fp hb xs
  have hrd := FL.set_rd hb hx
  refine ⟨⟨hm, ?_, ?_, ?_, by rw [e4]; exact a.tlen, fun k' b' c hb' hc => ?_, fun k t c ht hc => ?_, by rw [hfp]; exact a.nodup, fun i hi' hm => ?_⟩, rfl, f.mono fun i _ hm => ?_, fun q hq => .inl (by rw [hfp] at hq; exact hq), hrd⟩
  · have : ({ L with bl := L.bl.set k { b with xs := xs } } : FL).bl.map (fun b => AV.ptr (some (b.j, 0))) = L.bl.map fun b => .ptr (some (b.j, 0)) := by
      refine List.ext_getElem (by simp) fun n h1 h2 => ?_
      simp only [List.getElem_map, List.getElem_set]
      split
      · rename_i he; subst he; rw [ek]
      · rfl
    rw [this]
    exact a.bown.fr f fun i hi' hm => by
      simp at hm
      rcases hm with h1 | h1 | h1
      · subst h1; exact hi.1 hi'
      · subst h1; exact jb.2.2.2.1 hi'
      · subst h1; exact jb.2.2.2.2.1 hi'
  · rw [e4]
    exact a.town.fr f fun i hi' hm => by
      simp at hm
      rcases hm with h1 | h1 | h1
      · subst h1; exact hi.2 hi'
      · subst h1; exact jb.2.2.2.2.2.1 hi'
      · subst h1; exact jb.2.2.2.2.2.2 hi'
  · rw [e3]; simp [a.blen]
  · simp only at hb'
    rw [e3] at hc
    rw [e1, e2]
    by_cases hkk : k' = k
    · subst hkk
      have hkF : k' < F.blks.length := by rw [← a.blen]; exact hk
      rw [List.getElem?_set_self hk] at hb'
      rw [List.getElem?_set_self hkF] at hc
      cases hb'; cases hc
      exact hr
    · rw [List.getElem?_set_ne (by omega)] at hb' hc
      have ap := a.apart hb hb' hkk
      have jb' := a.jpid hb'
      exact (a.blk k' b' c hb' hc).fr f (by simp; exact ⟨jb'.2.1, ap.1, ap.2.1⟩) (by simp; exact ⟨jb'.2.2.1, ap.2.2.1, ap.2.2.2⟩) fun x hx i hi' => nofp i (FL.mem_xs hb' hx hi')
  · rw [e4] at hc
    have := a.tn k t c ht hc
    exact ⟨this.1.fr f fun i hi' => nofp i (FL.mem_t (L := L) ht (.inl hi')), this.2.fr f fun i hi' => nofp i (FL.mem_t (L := L) ht (.inr hi'))⟩
  · rw [hfp] at hm
    rcases hrd i hi' with h1 | h1
    · exact a.sep i h1 hm
    · have := a.fp_lt i hm; omega
  · simp at hm
    rcases hm with h1 | h1 | h1
    · rw [h1]; simp [FL.fp]
    · rw [h1]; exact FL.mem_j hb
    · rw [h1]; exact FL.mem_pid hb

/-! ## Asked -/

def FS.findE (F : FS) (b p : Int) : Int := if F.down = true then 11 else if ¬(0 ≤ b ∧ b < F.B) then 2 else if ¬(0 ≤ p ∧ p < F.P) then 2 else 0

theorem FRep.bsl_len {h : AH} {L : FL} {F : FS} (a : FRep h L F) : lenO L.bsl = F.blks.length := by
  have := a.bown.slAt.len; simp [a.blen] at this; exact this
theorem FRep.cell_ {h : AH} {L : FL} {F : FS} (a : FRep h L F) {o : Nat} : h.cell L.i o = (mainCells F L)[o]? := cell_of a.main

theorem flash_at_ok {h : AH} {L : FL} {F : FS} (a : FRep h L F) (w : FWf F) {b : Int} {K : Option (Nat × Nat) → AH → Prop} (hno : ¬(0 ≤ b ∧ b < F.B) → K none h)
    (hyes : ∀ (k : Nat) bl, b = k → k < F.B → L.bl[k]? = some bl → K (some (bl.j, 0)) h) : flash_Flash_at (some (L.i, 0)) b h K := by
  refine flash_Flash_at.go ?_
  unfold flash_Flash_atw
  have hl := a.bsl_len
  simp only [Option.isNone_some, br_false, ob_some, a.cell_, mainCells, List.getElem?_cons_zero, List.getElem?_cons_succ, chkSl_slice, Nat.zero_add]
  have hB := w.B
  have hbl := w.blen
  rw [hl, wrap_i64 (by omega) (by omega)]
  refine flash_within_ok ?_
  by_cases hb : 0 ≤ b ∧ b < F.B
  case neg =>
    rw [decide_eq_false (by omega)]
    exact hno hb
  rw [decide_eq_true (by omega)]
  simp only [Bool.not_true, br_false, ob_some, a.cell_, mainCells, List.getElem?_cons_zero, List.getElem?_cons_succ, chkSl_slice]
  obtain ⟨k, rfl⟩ := Int.eq_ofNat_of_zero_le hb.1
  have hk : k < L.bl.length := by rw [a.blen]; omega
  obtain ⟨s, hs⟩ : ∃ s, L.bsl = some s := by
    cases hbs : L.bsl with
    | none => rw [hbs] at hl; simp [lenO] at hl; omega
    | some s => exact ⟨s, rfl⟩
  have hsl := a.bown.slAt
  rw [hs] at hl hsl ⊢
  have hsl' : s.len = F.blks.length := hl
  simp only [ob_some]
  refine need_i (by omega) ?_
  rw [Int.toNat_natCast, Nat.mul_one, hsl.at_ (by simpa using hk)]
  simp only [List.getElem?_map, List.getElem?_eq_getElem hk, Option.map_some, ob_some, chkPtr_ptr]
  exact hyes k _ rfl (by omega) (List.getElem?_eq_getElem hk)

theorem flash_find_ok {h : AH} {L : FL} {F : FS} (a : FRep h L F) (w : FWf F) {b p : Int} {K : Option (Nat × Nat) → Int → AH → Prop} (hno : F.findE b p ≠ 0 → K none (F.findE b p) h)
    (hyes : F.findE b p = 0 → ∀ (k q : Nat) bl, b = k → p = q → k < F.B → q < F.P → L.bl[k]? = some bl → K (some (bl.j, 0)) 0 h) : flash_Flash_find (some (L.i, 0)) b p h K := by
  refine flash_Flash_find.go ?_
  unfold flash_Flash_findw
  simp only [Option.isNone_some, br_false, ob_some, a.cell_, mainCells, List.getElem?_cons_zero, List.getElem?_cons_succ, chkBool_bool, Nat.zero_add, Nat.reduceAdd]
  refine br_intro (fun hd => ?_) fun hd => ?_
  · have : F.findE b p = 11 := if_pos hd
    rw [this] at hno
    exact hno (by decide)
  have hd' : ¬F.down = true := by simp [hd]
  have hP := w.P
  refine flash_at_ok a w (fun hb => ?_) fun k bl hbk hk hbl => ?_
  · have : F.findE b p = 2 := by unfold FS.findE; rw [if_neg hd', if_pos hb]
    rw [this] at hno
    exact hno (by decide)
  · subst hbk
    simp only [Option.isNone_some, br_false, ob_some, a.cell_, mainCells, List.getElem?_cons_zero, List.getElem?_cons_succ, chkInt_int, Nat.zero_add, Nat.reduceAdd]
    rw [wrap_i64 (by omega) (by omega)]
    refine flash_within_ok ?_
    by_cases hp : 0 ≤ p ∧ p < F.P
    · rw [decide_eq_true (by omega)]
      obtain ⟨q, rfl⟩ := Int.eq_ofNat_of_zero_le hp.1
      exact hyes (by unfold FS.findE; rw [if_neg hd', if_neg (by omega), if_neg (by omega)]) k q bl rfl rfl hk (by omega) hbl
    · rw [decide_eq_false (by omega)]
      have : F.findE k p = 2 := by unfold FS.findE; rw [if_neg hd', if_neg (by omega), if_pos hp]
      rw [this] at hno
      exact hno (by decide)

theorem flash_Config_ok {h : AH} {L : FL} {F : FS} (a : FRep h L F) {K : Int → Int → Int → Int → AH → Prop} (hk : ∀ h', Fr [] h h' → K F.B F.P F.S F.L h') : flash_Flash_Config (some (L.i, 0)) h K := by
  refine flash_Flash_Config.go ?_
  unfold flash_Flash_Configw
  refine new_i fun i3 h2 e2 f2 l2 => ?_
  have a2 := a.kept f2
  simp only [Option.isNone_some, br_false, ob_some, Nat.zero_add]
  have e : h2.cellsAt L.i 3 4 = some [.int .i64 F.B, .int .i64 F.P, .int .i64 F.S, .int .i64 F.L] := by
    rw [cellsAt_of a2.main]; rfl
  refine ob_i e ?_
  rw [ints4_eq]
  refine put_i e2 rfl fun h4 e4 f4 => ob_all e4 rfl ?_
  rw [ints4_eq]
  exact hk h4 (f2.tr f4 (by simpa using l2))

/-- What a read answers. -/
def FS.read (F : FS) (b p : Int) : List UInt8 :=
  match F.blks[b.toNat]? with
  | some c => if c.bad = true then blankP F.S else c.pages.getD p.toNat []
  | none => []

theorem flash_Read_ok {h : AH} {L : FL} {F : FS} (a : FRep h L F) (w : FWf F) {b p : Int} {K : Option Sl → Int → AH → Prop} (hno : F.findE b p ≠ 0 → K none (F.findE b p) h)
    (hyes : F.findE b p = 0 → ∀ x h', By h' x (F.read b p) → (F.read b p).length = F.S → Fr [] h h' → (∀ i ∈ slId x, h.length ≤ i) → K x 0 h') : flash_Flash_Read (some (L.i, 0)) b p h K := by
  refine flash_Flash_Read.go ?_
  unfold flash_Flash_Readw
  refine flash_find_ok a w (fun he => ?_) fun he k q bl hb hp hk hq hbl => ?_
  · rw [br_ne_neq he]; exact hno he
  rw [br_ne_eq rfl]
  subst hb hp
  have hkF : k < F.blks.length := by rw [w.blen]; exact hk
  have r := a.blk k bl _ hbl (List.getElem?_eq_getElem hkF)
  have hS := w.S
  simp only [ob_some, cell_of r.blk, List.getElem?_cons_zero, List.getElem?_cons_succ, chkBool_bool, Nat.zero_add]
  have hread : F.read k q = if F.blks[k].bad = true then blankP F.S else F.blks[k].pages.getD q [] := by
    unfold FS.read
    rw [Int.toNat_natCast, List.getElem?_eq_getElem hkF, Int.toNat_natCast]
  refine br_intro (fun hd => ?_) fun hd => ?_
  · simp only [a.cell_, mainCells, ob_some, List.getElem?_cons_zero, List.getElem?_cons_succ, chkInt_int, Nat.reduceAdd]
    rw [if_pos hd] at hread
    refine flash_blank_ok (by omega) fun i h' e' f' l' => ?_
    refine hyes he _ h' ?_ (by rw [hread]; simp [blankP]) f' fun i' hi => ?_
    · rw [hread]; exact blank_by e'
    · have := slId_ids i' hi; simp [ids] at this; omega
  · rw [if_neg (by simp [hd])] at hread
    have hq' : q < bl.xs.length := by rw [r.len]; exact hq
    have hqp : q < F.blks[k].pages.length := by rw [r.plen]; exact hq
    obtain ⟨hby, hlen⟩ := r.page q _ _ (List.getElem?_eq_getElem hq') (List.getElem?_eq_getElem hqp)
    have hread : F.read k q = F.blks[k].pages[q] := by rw [hread, List.getD_eq_getElem?_getD, List.getElem?_eq_getElem hqp]; rfl
    refine new_i fun i18 h17 e17 f17 l17 => ?_
    have r17 := r.fr f17 (by simp) (by simp) (by simp)
    simp only [ob_some, cell_of r17.blk, List.getElem?_cons_zero, chkSl_slice]
    refine need_i (by omega) ?_
    rw [Int.toNat_natCast, Nat.mul_one, Nat.zero_add, cell_of r17.arr]
    simp only [List.getElem?_map, List.getElem?_eq_getElem hq', Option.map_some, ob_some, chkSl_slice]
    have o17 : Own h17 1 (some ⟨i18, 0, 0, 0, none⟩) [] := Own.made e17 (by simp)
    refine append_own (bytes := 1) o17 (fun K' => aNews_at (hby.kept f17) (by decide) K') (by rw [By.len hby]; simp) (bys_scal _) (by rw [By.len hby, hlen]; show (0 + F.S) * 1 ≤ _; omega) fun x' h' o' f' i' => ?_
    refine hyes he x' h' ?_ (by rw [hread]; exact hlen) (f17.tr f' (by simp [ids]; omega)) fun i hi => ?_
    · rw [hread]; exact o'.slAt
    · have := slId_ids i hi
      rcases i' i this with h1 | h1
      · simp [ids] at h1; omega
      · have := f17.len; omega

end Go.Abs
