/- A flash device in the heap: what it is, how it is kept, how it is made and read. -/
import Derived.Test.YtdpecfeofcibhaaB11
namespace Go.Abs

/-- A block of a device. -/
structure FB where
  pages : List (List UInt8)
  next : Int
  wear : Int
  bad : Bool
structure Tn where
  block : Int
  page : Int
  meant : List UInt8
  image : List UInt8
/-- A device. -/
structure FS where
  after : Int
  keep : Int
  down : Bool
  B : Nat
  P : Nat
  S : Nat
  L : Nat
  blks : List FB
  bytes : Int
  torn : List Tn

def blankP (n : Nat) : List UInt8 := List.replicate n 255

/-- Where a block lies: its struct, its pages' array, its pages. -/
structure BL where
  j : Nat
  pid : Nat
  xs : List (Option Sl)
structure TL where
  m : Option Sl
  g : Option Sl
/-- Where a device lies. -/
structure FL where
  i : Nat
  bsl : Option Sl
  bl : List BL
  tsl : Option Sl
  tl : List TL

def FL.fp (L : FL) : List Nat := L.i :: (ids L.bsl ++ (ids L.tsl ++ L.bl.flatMap fun b => [b.j, b.pid]))
def FL.rd (L : FL) : List Nat := (L.bl.flatMap fun b => b.xs.flatMap slId) ++ L.tl.flatMap fun t => slId t.m ++ slId t.g

structure BRep (h : AH) (P S : Nat) (b : BL) (c : FB) : Prop where
  blk : h[b.j]? = some (.cells [.slice (some ⟨b.pid, 0, P, P, none⟩), .int .i64 c.next, .int .i64 c.wear, .bool c.bad] false)
  arr : h[b.pid]? = some (.cells (b.xs.map .slice) false)
  len : b.xs.length = P
  plen : c.pages.length = P
  page : ∀ (p : Nat) (x : Option Sl) (l : List UInt8), b.xs[p]? = some x → c.pages[p]? = some l → By h x l ∧ l.length = S

def tornCells (tl : List TL) (T : List Tn) : List AV := (tl.zip T).flatMap fun a => [.int .i64 a.2.block, .int .i64 a.2.page, .slice a.1.m, .slice a.1.g]

structure FRep (h : AH) (L : FL) (F : FS) : Prop where
  main : h[L.i]? = some (.cells [.int .i64 F.after, .int .i64 F.keep, .bool F.down, .int .i64 F.B, .int .i64 F.P, .int .i64 F.S, .int .i64 F.L, .slice L.bsl, .int .i64 F.bytes, .slice L.tsl] false)
  bown : Own h 1 L.bsl (L.bl.map fun b => .ptr (some (b.j, 0)))
  town : Own h 4 L.tsl (tornCells L.tl F.torn)
  blen : L.bl.length = F.blks.length
  tlen : L.tl.length = F.torn.length
  blk : ∀ (k : Nat) (b : BL) (c : FB), L.bl[k]? = some b → F.blks[k]? = some c → BRep h F.P F.S b c
  tn : ∀ (k : Nat) (t : TL) (c : Tn), L.tl[k]? = some t → F.torn[k]? = some c → By h t.m c.meant ∧ By h t.g c.image
  nodup : L.fp.Nodup
  sep : ∀ i ∈ L.rd, i ∉ L.fp

theorem SlAt.lt {h : AH} {sz : Nat} {x : Option Sl} {cs : List AV} (a : SlAt h sz x cs) (hz : sz ≠ 0) : ∀ i ∈ slId x, i < h.length := by
  cases x with
  | none => simp [slId]
  | some s =>
    intro i hi
    simp only [slId] at hi
    split at hi
    · simp at hi
    · rename_i h0
      simp at hi; subst hi
      refine cellsAt_lt (a.2.2 ?_)
      rintro rfl
      have := a.2.1
      rw [List.length_nil] at this
      rcases Nat.mul_eq_zero.1 this with h1 | h1
      · exact h0 h1
      · exact hz h1

theorem BRep.fr {h h' : AH} {P S : Nat} {b : BL} {c : FB} (a : BRep h P S b c) {T : List Nat} (f : Fr T h h') (h1 : b.j ∉ T) (h2 : b.pid ∉ T) (h3 : ∀ x ∈ b.xs, ∀ i ∈ slId x, i ∉ T) : BRep h' P S b c :=
  ⟨f.keep a.blk h1, f.keep a.arr h2, a.len, a.plen, fun p x l hx hl => ⟨(a.page p x l hx hl).1.fr f (h3 x (List.mem_of_getElem? hx)), (a.page p x l hx hl).2⟩⟩

theorem FL.mem_j {L : FL} {k : Nat} {b : BL} (hb : L.bl[k]? = some b) : b.j ∈ L.fp := by
  unfold FL.fp
  simp only [List.mem_cons, List.mem_append, List.mem_flatMap]
  exact .inr (.inr (.inr ⟨b, List.mem_of_getElem? hb, by simp⟩))
theorem FL.mem_pid {L : FL} {k : Nat} {b : BL} (hb : L.bl[k]? = some b) : b.pid ∈ L.fp := by
  unfold FL.fp
  simp only [List.mem_cons, List.mem_append, List.mem_flatMap]
  exact .inr (.inr (.inr ⟨b, List.mem_of_getElem? hb, by simp⟩))
theorem FL.mem_xs {L : FL} {k : Nat} {b : BL} (hb : L.bl[k]? = some b) {x : Option Sl} (hx : x ∈ b.xs) {i : Nat} (hi : i ∈ slId x) : i ∈ L.rd := by
  unfold FL.rd
  rw [List.mem_append]
  exact .inl (List.mem_flatMap.2 ⟨b, List.mem_of_getElem? hb, List.mem_flatMap.2 ⟨x, hx, hi⟩⟩)
theorem FL.mem_t {L : FL} {k : Nat} {t : TL} (hb : L.tl[k]? = some t) {i : Nat} (hi : i ∈ slId t.m ∨ i ∈ slId t.g) : i ∈ L.rd := by
  unfold FL.rd
  rw [List.mem_append]
  exact .inr (List.mem_flatMap.2 ⟨t, List.mem_of_getElem? hb, List.mem_append.2 hi⟩)

/-- What stays, stays. -/
theorem FRep.fr {h h' : AH} {L : FL} {F : FS} (a : FRep h L F) {T : List Nat} (f : Fr T h h') (h1 : ∀ i ∈ L.fp, i ∉ T) (h2 : ∀ i ∈ L.rd, i ∉ T) : FRep h' L F where
  main := f.keep a.main (h1 _ (by simp [FL.fp]))
  bown := a.bown.fr f fun i hi => h1 i (by simp [FL.fp, hi])
  town := a.town.fr f fun i hi => h1 i (by simp [FL.fp, hi])
  blen := a.blen
  tlen := a.tlen
  blk := fun k b c hb hc => (a.blk k b c hb hc).fr f (h1 _ (FL.mem_j hb)) (h1 _ (FL.mem_pid hb)) fun x hx i hi => h2 i (FL.mem_xs hb hx hi)
  tn := fun k t c ht hc => ⟨(a.tn k t c ht hc).1.fr f fun i hi => h2 i (FL.mem_t ht (.inl hi)), (a.tn k t c ht hc).2.fr f fun i hi => h2 i (FL.mem_t ht (.inr hi))⟩
  nodup := a.nodup
  sep := a.sep
theorem FRep.kept {h h' : AH} {L : FL} {F : FS} (a : FRep h L F) (f : Fr [] h h') : FRep h' L F := a.fr f (by simp) (by simp)

theorem FRep.get {h : AH} {L : FL} {F : FS} (a : FRep h L F) {k : Nat} (hk : k < F.blks.length) : ∃ b, L.bl[k]? = some b ∧ BRep h F.P F.S b F.blks[k] := by
  have hl : k < L.bl.length := by rw [a.blen]; exact hk
  exact ⟨L.bl[k], List.getElem?_eq_getElem hl, a.blk k _ _ (List.getElem?_eq_getElem hl) (List.getElem?_eq_getElem hk)⟩

theorem FRep.fp_lt {h : AH} {L : FL} {F : FS} (a : FRep h L F) : ∀ i ∈ L.fp, i < h.length := by
  intro i hi
  unfold FL.fp at hi
  simp only [List.mem_cons, List.mem_append, List.mem_flatMap] at hi
  rcases hi with rfl | hi | hi | ⟨b, hb, hi⟩
  · exact (List.getElem?_eq_some_iff.1 a.main).1
  · exact a.bown.lt i hi
  · exact a.town.lt i hi
  · obtain ⟨k, hk, rfl⟩ := List.mem_iff_getElem.1 hb
    have hk' : k < F.blks.length := by rw [← a.blen]; exact hk
    have hr := a.blk k _ _ (List.getElem?_eq_getElem hk) (List.getElem?_eq_getElem hk')
    simp at hi
    rcases hi with rfl | rfl
    · exact (List.getElem?_eq_some_iff.1 hr.blk).1
    · exact (List.getElem?_eq_some_iff.1 hr.arr).1
theorem FRep.rd_lt {h : AH} {L : FL} {F : FS} (a : FRep h L F) : ∀ i ∈ L.rd, i < h.length := by
  intro i hi
  unfold FL.rd at hi
  simp only [List.mem_append, List.mem_flatMap] at hi
  rcases hi with ⟨b, hb, x, hx, hi⟩ | ⟨t, ht, hi⟩
  · obtain ⟨k, hk, rfl⟩ := List.mem_iff_getElem.1 hb
    have hk' : k < F.blks.length := by rw [← a.blen]; exact hk
    have hr := a.blk k _ _ (List.getElem?_eq_getElem hk) (List.getElem?_eq_getElem hk')
    obtain ⟨p, hp, rfl⟩ := List.mem_iff_getElem.1 hx
    have hp' : p < F.blks[k].pages.length := by rw [hr.plen, ← hr.len]; exact hp
    exact SlAt.lt (hr.page p _ _ (List.getElem?_eq_getElem hp) (List.getElem?_eq_getElem hp')).1 (by decide) i hi
  · obtain ⟨k, hk, rfl⟩ := List.mem_iff_getElem.1 ht
    have hk' : k < F.torn.length := by rw [← a.tlen]; exact hk
    have hr := a.tn k _ _ (List.getElem?_eq_getElem hk) (List.getElem?_eq_getElem hk')
    rcases hi with hi | hi
    · exact SlAt.lt hr.1 (by decide) i hi
    · exact SlAt.lt hr.2 (by decide) i hi

/-! ## Small functions -/

theorem flash_within_ok {n a b : Int} {h : AH} {K : Bool → AH → Prop} (hk : K (decide (a ≤ n ∧ n ≤ b)) h) : flash_within n a b h K := by
  refine flash_within.go ?_
  unfold flash_withinw
  refine br_dec (fun h1 => ?_) fun h1 => ?_
  · have : decide (a ≤ n ∧ n ≤ b) = decide (n ≤ b) := by
      have : (a ≤ n) := h1
      simp [this]
    rwa [this] at hk
  · rwa [decide_eq_false (by omega)] at hk

theorem flash_blank_L0_ok {i n : Nat} (hn : n ≤ 1000000) {h0 : AH} {K : AH → Prop} (hk : ∀ h', Fr [i] h0 h' → h'[i]? = some (.cells (bys (blankP n)) false) → K h') :
    ∀ (m k : Nat) (h : AH), k + m = n → Fr [i] h0 h → h[i]? = some (.cells (bys (blankP k) ++ bys (List.replicate m 0)) false) → flash_blank_L0 (some ⟨i, 0, n, n, none⟩) (n : Int) (k : Int) h K
  | 0, k, h, hm, f, e => by
    refine flash_blank_L0.go ?_
    unfold flash_blank_L0w
    rw [br_neg (by omega)]
    simp only [AV.beq_self, guardR_true]
    obtain rfl : k = n := by omega
    exact hk h f (by simpa using e)
  | m + 1, k, h, hm, f, e => by
    refine flash_blank_L0.go ?_
    unfold flash_blank_L0w
    rw [br_pos (by omega)]
    simp only [ob_some]
    refine need_i (by omega) ?_
    rw [Int.toNat_natCast, Nat.mul_one, Nat.zero_add]
    refine put1_i e (by simp [blankP]) fun h' e' f' => ?_
    rw [wrap_i64 (by omega) (by omega)]
    refine flash_blank_L0_ok hn hk m (k + 1) h' (by omega) (f.trans f') ?_
    rw [e']
    congr 2
    have hl : (bys (blankP k)).length = k := by simp [blankP]
    rw [List.replicate_succ, show bys (0 :: List.replicate m 0) = u8 0 :: bys (List.replicate m 0) from rfl, List.set_append_right (h := by omega), hl, Nat.sub_self, List.set_cons_zero]
    have : bys (blankP (k + 1)) = bys (blankP k) ++ [u8 255] := by unfold blankP; rw [List.replicate_succ', bys_append]; rfl
    rw [this, List.append_assoc]
    rfl

theorem flash_blank_ok {n : Nat} (hn : n ≤ 1000000) {h : AH} {K : Option Sl → AH → Prop} (hk : ∀ i h', h'[i]? = some (.cells (bys (blankP n)) false) → Fr [] h h' → h.length ≤ i → K (some ⟨i, 0, n, n, none⟩) h') : flash_blank (n : Int) h K := by
  refine flash_blank.go ?_
  unfold flash_blankw
  refine need_i (by omega) ?_
  rw [Int.toNat_natCast]
  refine new_i fun i3 h2 e2 f2 l2 => ?_
  refine flash_blank_L0_ok hn (h0 := h2) (fun h' f' e' => hk i3 h' e' (f2.tr f' (by simpa using l2)) l2) n 0 h2 (by omega) (.refl _ _) ?_
  rw [e2, repZero_eq, bys_zeros]; rfl

theorem blank_by {h : AH} {i n : Nat} (e : h[i]? = some (.cells (bys (blankP n)) false)) : By h (some ⟨i, 0, n, n, none⟩) (blankP n) := SlAt.made e (by simp [blankP])

theorem flash_wipe_L0_ok {j pid P S n : Nat} (hS : S ≤ 1000000) {rest : List AV} {xs : List (Option Sl)} (hx : xs.length = P) (hn : n ≤ P) (hP : P ≤ 1000000) (hj : j ≠ pid) {h0 : AH} {K : AH → Prop}
    (hk : ∀ ys h', ys.length = n → (∀ y ∈ ys, By h' y (blankP S) ∧ ∀ i ∈ slId y, h0.length ≤ i) → h'[pid]? = some (.cells ((ys ++ xs.drop n).map .slice) false) → Fr [pid] h0 h' → K h') :
    ∀ (m k : Nat) (ys : List (Option Sl)) (h : AH), k + m = n → ys.length = k → (∀ y ∈ ys, By h y (blankP S) ∧ ∀ i ∈ slId y, h0.length ≤ i) → h[j]? = some (.cells (.slice (some ⟨pid, 0, P, P, none⟩) :: rest) false) →
      h[pid]? = some (.cells ((ys ++ xs.drop k).map .slice) false) → Fr [pid] h0 h → pid < h0.length → flash_block_wipe_L0 (some (j, 0)) (S : Int) (n : Int) (k : Int) h K
  | 0, k, ys, h, hm, hy, hb, ej, ep, f, hp => by
    refine flash_block_wipe_L0.go ?_
    unfold flash_block_wipe_L0w
    rw [br_neg (by omega)]
    obtain rfl : k = n := by omega
    exact hk ys h hy hb ep f
  | m + 1, k, ys, h, hm, hy, hb, ej, ep, f, hp => by
    refine flash_block_wipe_L0.go ?_
    unfold flash_block_wipe_L0w
    rw [br_pos (by omega)]
    refine hold0_i ?_
    simp only [ob_some, cell_of ej, List.getElem?_cons_zero, chkSl_slice]
    refine flash_blank_ok hS fun i h18 e18 f18 l18 => ?_
    have ej18 := f18.kept ej
    refine guardR_i ?_ ?_
    · rw [Bool.and_true]; exact req_cell (by rw [cell_of ej18]; rfl)
    refine need_i (by omega) ?_
    rw [Int.toNat_natCast, Nat.mul_one, Nat.zero_add]
    refine put1_i (f18.kept ep) (by simp [hy, hx]; omega) fun h' e' f' => ?_
    rw [wrap_i64 (by omega) (by omega)]
    have hlen := f.len
    refine flash_wipe_L0_ok hS hx hn hP hj hk m (k + 1) (ys ++ [some ⟨i, 0, S, S, none⟩]) h' (by omega) (by simp [hy]) (fun y hyy => ?_) (f'.keep ej18 (by simpa using hj)) ?_ ((f.trans f18.nil).trans f') hp
    · rcases List.mem_append.1 hyy with h1 | h1
      · refine ⟨((hb y h1).1.kept f18).fr f' fun i hi hm => ?_, (hb y h1).2⟩
        have := (hb y h1).2 i hi
        simp at hm; omega
      · simp at h1
        subst h1
        refine ⟨(blank_by e18).fr f' fun i hi hm => ?_, fun i hi => ?_⟩
        · simp only [slId] at hi
          split at hi
          · simp at hi
          · simp at hi hm; omega
        · simp only [slId] at hi
          split at hi
          · simp at hi
          · simp at hi; omega
    · rw [e']
      congr 2
      have hd : xs.drop k = xs[k]'(by omega) :: xs.drop (k + 1) := List.drop_eq_getElem_cons (by omega)
      rw [hd, List.map_append, List.map_cons, List.set_append_right (h := by simp [hy]), List.length_map, hy, Nat.sub_self, List.set_cons_zero]
      simp

theorem flash_wipe_ok {j pid P S n : Nat} (hS : S ≤ 1000000) {rest : List AV} {xs : List (Option Sl)} (hx : xs.length = P) (hn : n ≤ P) (hP : P ≤ 1000000) (hj : j ≠ pid) {h : AH} {K : AH → Prop}
    (ej : h[j]? = some (.cells (.slice (some ⟨pid, 0, P, P, none⟩) :: rest) false)) (ep : h[pid]? = some (.cells (xs.map .slice) false))
    (hk : ∀ ys h', ys.length = n → (∀ y ∈ ys, By h' y (blankP S) ∧ ∀ i ∈ slId y, h.length ≤ i) → h'[pid]? = some (.cells ((ys ++ xs.drop n).map .slice) false) → Fr [pid] h h' → K h') : flash_block_wipe (some (j, 0)) (n : Int) (S : Int) h K := by
  refine flash_block_wipe.go ?_
  unfold flash_block_wipew
  exact flash_wipe_L0_ok hS hx hn hP hj hk n 0 [] h (by omega) rfl (by simp) ej (by simpa using ep) (.refl _ _) (List.getElem?_eq_some_iff.1 ep).1

end Go.Abs
