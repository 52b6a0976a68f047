/- How a reading is begun at a world: the abstract heap is all its blocks, never written; what arguments are there. -/
import Derived.Test.YtdpecfeofcibhaaB2
import Derived.Deep.Slices
import Derived.Deep.Strs
import Derived.ChangeSlices
import Derived.Below
namespace Go.Abs
open Go.ChangeShapes Go.WideShapes Go.RowKit Go.Deep

def absV (w : World) : Value → AV
  | .bool b => .bool b
  | .int k n => .int k n
  | .string s => .str s.data.toList
  | .pointer none => .ptr none
  | .pointer (some a) => if a.block < w.heap.size ∧ a.spot = none then .ptr (some (a.block, a.off)) else .bot
  | .slice none 0 0 => .slice none
  | .slice (some a) len cap => if len = 0 then .slice (some ⟨0, 0, 0, 0, some 0⟩) else if a.block < w.heap.size ∧ a.spot = none ∧ len ≤ cap then .slice (some ⟨a.block, a.off, len, cap, none⟩) else .bot
  | _ => .bot

def absB (w : World) (i : Nat) : ABlk :=
  match w.heap[i]? with
  | some (.cells d _ _) => .cells (d.toList.map (absV w)) true
  | _ => .dead
def absE (w : World) (i : Nat) : Ent :=
  match w.heap[i]? with
  | some (.cells d _ _) => .live i 0 d.size
  | _ => .dead
def absH (w : World) : AH := (List.range w.heap.size).map (absB w)
def absS (w : World) : Sig := (List.range w.heap.size).map (absE w)

theorem absS_get {w : World} {i : Nat} (hi : i < w.heap.size) : (absS w)[i]? = some (absE w i) := by simp [absS, hi]
theorem absH_get {w : World} {i : Nat} (hi : i < w.heap.size) : (absH w)[i]? = some (absB w i) := by simp [absH, hi]

theorem absA_rel {w : World} {a : Addr} (h1 : a.block < w.heap.size) (h2 : a.spot = none) : ARel (absS w) a.block a.off a := by
  unfold ARel
  rw [absS_get h1]
  unfold absE
  rcases w.heap[a.block]? with _ | (_ | _ | _ | _) <;> simp only []
  all_goals first
    | trivial
    | (cases a; simp_all)

theorem absV_rel (w : World) (v : Value) : VRel (absS w) (absV w v) v := by
  unfold absV
  split
  · exact .bool _
  · exact .int _ _
  · exact .str _ _ rfl
  · exact .ptr0
  · split
    · rename_i h; exact .ptr _ _ _ (absA_rel h.1 h.2)
    · exact .bot _
  · exact .slice0
  · split
    · rename_i h
      subst h
      exact .slice _ _ _ _ ⟨rfl, Nat.le_refl _, Nat.zero_le _, fun h => by simp at h, fun _ => rfl, fun h => absurd rfl h, fun sz h h0 => by simp at h; omega⟩
    · split
      · rename_i h
        exact .slice _ _ _ _ ⟨rfl, h.2.2, Nat.le_refl _, fun _ => rfl, fun h => by simp at h, fun _ => absA_rel h.1 h.2.1, fun sz h => by simp at h⟩
      · exact .bot _
  · exact .bot _

theorem absH_rel (w : World) : HRel (absS w) (absH w) w := by
  refine ⟨by simp [absS, absH], fun i e B he hB => ?_, fun i j b base base' d d' hi hj => ?_⟩
  · have hi : i < w.heap.size := by
      have := (List.getElem?_eq_some_iff.1 he).1
      simpa [absS] using this
    rw [absS_get hi] at he
    rw [absH_get hi] at hB
    cases he; cases hB
    unfold absE absB
    cases hw : w.heap[i]? with
    | none => simp [BRel]
    | some o =>
      cases o <;> simp only [BRel]
      rename_i d T fr
      refine ⟨d, T, fr, hw, rfl, by simp, fun h => by simp at h, ?_⟩
      simp only [List.drop_zero, List.length_map, Array.length_toList]
      rw [List.take_of_length_le (by simp)]
      have : d.toList = d.toList.map id := by simp
      conv => arg 3; rw [this]
      exact All2.maps _ _ _ fun x _ => absV_rel w x
  · have key : ∀ k b base d, (absS w)[k]? = some (Ent.live b base d) → k = b := by
      intro k b base d hk
      have hlt : k < w.heap.size := by
        have := (List.getElem?_eq_some_iff.1 hk).1
        simpa [absS] using this
      rw [absS_get hlt] at hk
      unfold absE at hk
      split at hk <;> cases hk
      rfl
    rw [key _ _ _ _ hi, key _ _ _ _ hj]

/-- AN ABSTRACT CALL THAT ANSWERS TRUE: the model's does, and what was there is as it was. -/
theorem startAs {P : Program} {M : FuncId → Keep} (hmix : P.follows .mixedOrders = true) {f : FuncId} {args : Array Value} {w : World} {avs : List AV} (ha : VRels (absS w) avs args.toList) (h : ACall P M f avs (absH w) (fun v _ => v = .bool true)) :
    Calls P f args w fun e w' => e = .returned (.bool true) ∧ Below w.heap.size w w' := by
  refine (sound hmix f _ _ _ h (absS w) w args (absH_rel w) ha).2.mono fun e w' hp => ?_
  obtain ⟨v, σ', h', u, rfl, hv, hs, rfl⟩ := hp
  cases hv
  refine ⟨rfl, hs.os, hs.tape, hs.output, hs.size, fun k hk => (hs.keep k hk fun ho => ?_).1⟩
  obtain ⟨i, base, dsz, B, h1, h2, h3⟩ := ho
  have hi : i < w.heap.size := by
    have := (List.getElem?_eq_some_iff.1 h1).1
    simpa [absS] using this
  rw [absS_get hi] at h1
  rw [absH_get hi] at h2
  unfold absE at h1
  unfold absB at h2
  split at h1
  · rename_i d T fr hw
    rw [hw] at h2
    cases h2
    cases h3
  · cases h1

theorem start {P : Program} {M : FuncId → Keep} (hmix : P.follows .mixedOrders = true) {f : FuncId} {args : Array Value} {w : World} (h : ACall P M f (args.toList.map (absV w)) (absH w) (fun v _ => v = .bool true)) :
    Calls P f args w fun e w' => e = .returned (.bool true) ∧ Below w.heap.size w w' := by
  refine startAs hmix ?_ h
  have : args.toList = args.toList.map id := by simp
  conv => arg 3; rw [this]
  exact All2.maps _ _ _ fun x _ => absV_rel w x

theorem law_true {P : Program} {M : FuncId → Keep} {f : FuncId} {args : List AV} {h : AH} (hh : ACall P M f args h fun v h2 => chkBool v fun b => (fun (b : Bool) (_ : AH) => b = true) b h2) : ACall P M f args h fun v _ => v = .bool true :=
  ACall.mono.mono _ _ _ _ _ (fun v h' hk => by
    cases v <;> simp only [chkBool] at hk
    all_goals first
      | exact hk.elim
      | (subst hk; rfl)) hh

/-! ## What arguments are -/

theorem absH_cell {w : World} {b o : Nat} {v : Value} (h : w.cell? ⟨b, o, none⟩ = some v) : (absH w).cell b o = some (absV w v) := by
  unfold World.cell? at h
  simp only [Option.isSome_none, Bool.false_eq_true, if_false] at h
  split at h
  · rename_i d T fr hw
    have hb : b < w.heap.size := by
      rcases Nat.lt_or_ge b w.heap.size with h1 | h1
      · exact h1
      · rw [Array.getElem?_eq_none h1] at hw; cases hw
    have : (absH w)[b]? = some (.cells (d.toList.map (absV w)) true) := by
      rw [absH_get hb]; unfold absB; rw [hw]
    rw [cell_of this, List.getElem?_map, Array.getElem?_toList, h]; rfl
  · cases h
theorem cell_block {w : World} {a : Addr} {v : Value} (h : w.cell? a = some v) : a.block < w.heap.size ∧ a.spot = none := by
  unfold World.cell? at h
  split at h
  · rename_i d T fr hw
    refine ⟨?_, ?_⟩
    · rcases Nat.lt_or_ge a.block w.heap.size with h1 | h1
      · exact h1
      · rw [Array.getElem?_eq_none h1] at hw; cases hw
    · split at h
      · cases h
      · rename_i h1; simpa using h1
  · cases h
theorem cellsAt_each {h : AH} {i o n : Nat} {cs : List AV} (hn : cs.length = n) (h0 : 0 < n) (hc : ∀ k, k < n → h.cell i (o + k) = cs[k]?) : h.cellsAt i o n = some cs := by
  unfold AH.cell at hc
  unfold AH.cellsAt
  cases hr : h.row i with
  | none =>
    have := hc 0 h0
    rw [hr] at this
    rw [show cs[0]? = some cs[0] from List.getElem?_eq_getElem (by omega)] at this
    simp at this
  | some c =>
    simp only [hr, Option.bind_some] at hc ⊢
    have hl : o + n ≤ c.length := by
      have := hc (n - 1) (by omega)
      rw [show cs[n - 1]? = some cs[n - 1] from List.getElem?_eq_getElem (by omega)] at this
      have := (List.getElem?_eq_some_iff.1 this).1
      omega
    rw [if_pos hl]
    congr 1
    refine List.ext_getElem? fun k => ?_
    rcases Nat.lt_or_ge k n with h1 | h1
    · rw [List.getElem?_take_of_lt h1, List.getElem?_drop, hc k h1]
    · rw [List.getElem?_eq_none (by simp; omega), List.getElem?_eq_none (by omega)]

/-- A slice of the world, as the readings see it. -/
def absSl (a : Option Addr) (len cap : Nat) : Option Sl :=
  match a with
  | none => none
  | some a => if len = 0 then some ⟨0, 0, 0, 0, some 0⟩ else some ⟨a.block, a.off, len, cap, none⟩

theorem absSl_at {w : World} {a : Addr} {len cap sz : Nat} (hsz : 0 < sz) (hl : len ≤ cap) {cs : List AV} (hn : cs.length = len * sz) (hc : ∀ k, k < len * sz → ∃ v, w.cell? (a.add k) = some v ∧ cs[k]? = some (absV w v)) :
    absV w (.slice (some a) len cap) = .slice (absSl (some a) len cap) ∧ SlAt (absH w) sz (absSl (some a) len cap) cs := by
  unfold absV absSl
  by_cases h0 : len = 0
  · subst h0
    simp only [if_true, true_and]
    have : cs = [] := List.length_eq_zero_iff.1 (by rw [hn]; simp)
    subst this
    exact ⟨⟨Nat.le_refl _, .inr (.inr ⟨rfl, rfl⟩)⟩, by simp, fun h => absurd rfl h⟩
  · have hp : 0 < len * sz := Nat.mul_pos (by omega) hsz
    obtain ⟨v0, h1, _⟩ := hc 0 hp
    simp only [Addr.add, if_true] at h1
    obtain ⟨hb, hs⟩ := cell_block h1
    simp only [if_neg h0]
    rw [if_pos ⟨hb, hs, hl⟩]
    refine ⟨rfl, ⟨hl, .inl rfl⟩, hn.symm, fun _ => cellsAt_each hn hp fun k hk => ?_⟩
    obtain ⟨v, h2, h3⟩ := hc k hk
    rw [h3]
    refine absH_cell ?_
    unfold Addr.add at h2
    split at h2
    · rename_i hk0
      subst hk0
      cases a
      simp only at hs
      subst hs
      exact h2
    · exact h2

section
variable {H : Type} {enc : TypeId × Value → H} {P : Program} {w : World} {base : Nat} {spare : Nat → Bool} {held : Bool}

/-- Bytes. -/
theorem arg_bytes {t e : TypeId} {fuel : Nat} {v : Value} {x : DataW H × List MemPlace} (ht : P.underlying t = some (.slice e)) (he : P.underlying e = some (.int .u8)) (hc : P.cellsOf e = 1)
    (h : DataW.trod enc P w base spare held fuel t [v] = some x) : ∃ s l, absV w v = .slice s ∧ By (absH w) s l := by
  rcases open_ints ht he hc h with ⟨hv, _⟩ | ⟨a, len, cap, zs, hv, _, hl, _, hz, _, hcell, hwf⟩
  · simp at hv; subst hv
    exact ⟨none, [], rfl, rfl⟩
  · simp at hv; subst hv
    have hlz : len ≤ zs.length := by rw [hz]; split <;> omega
    have := absSl_at (w := w) (a := a) (len := len) (cap := cap) (sz := 1) (by decide) hl (cs := bys ((zs.take len).map fun n => UInt8.ofNat n.toNat)) (by simp; omega) fun k hk => ?_
    · exact ⟨_, _, this.1, this.2⟩
    · have hk' : k < zs.length := by omega
      have hgd : zs.getD k 0 = zs[k] := by rw [List.getD_eq_getElem?_getD, List.getElem?_eq_getElem hk']; rfl
      refine ⟨_, hcell k hk', ?_⟩
      have hw := hwf zs[k] (List.getElem_mem hk')
      have hb : 0 ≤ zs[k] ∧ zs[k] ≤ 255 := by
        have hw : (decide (IntKind.min .u8 ≤ zs[k]) && decide (zs[k] ≤ IntKind.max .u8)) = true := hw
        rw [Bool.and_eq_true, decide_eq_true_eq, decide_eq_true_eq] at hw
        exact hw
      rw [bys_get, List.getElem?_map, List.getElem?_take_of_lt (by omega), List.getElem?_eq_getElem hk', hgd]
      simp only [Option.map_some, absV]
      unfold u8
      obtain ⟨m, hm⟩ := Int.eq_ofNat_of_zero_le hb.1
      rw [hm, Int.toNat_natCast, UInt8.toNat_ofNat_of_lt' (show m < 256 by omega)]

/-- Structs of three integers. -/
theorem arg_tri {t e : TypeId} {f0 f1 f2 : Field} {fuel : Nat} {v : Value} {x : DataW H × List MemPlace} (ht : P.underlying t = some (.slice e)) (he : P.underlying e = some (.struct #[f0, f1, f2])) (hc : P.cellsOf e = 3)
    (o0 : f0.offset = 0) (o1 : f1.offset = 1) (o2 : f2.offset = 2) (c0 : P.cellsOf f0.type = 1) (c1 : P.cellsOf f1.type = 1) (c2 : P.cellsOf f2.type = 1)
    (t0 : P.underlying f0.type = some (.int .i64)) (t1 : P.underlying f1.type = some (.int .i64)) (t2 : P.underlying f2.type = some (.int .i64))
    (h : DataW.trod enc P w base spare held fuel t [v] = some x) : ∃ (s : Option Sl) (l : List (Int × Int × Int)), absV w v = .slice s ∧ SlAt (absH w) 3 s (l.flatMap fun a : Int × Int × Int => [.int .i64 a.1, .int .i64 a.2.1, .int .i64 a.2.2]) := by
  rcases open_slice ht h with ⟨hv, _⟩ | ⟨a, len, cap, m, n, D, Pl, hv, _, hl, _, hm, _, hel⟩
  · simp at hv; subst hv
    exact ⟨none, [], rfl, rfl⟩
  · simp at hv; subst hv
    have hlm : len ≤ m := by rw [hm]; split <;> omega
    have each : ∀ i, i < len → ∃ q : Int × Int × Int, w.cell? (a.add (i * 3)) = some (.int .i64 q.1) ∧ w.cell? (a.add (i * 3 + 1)) = some (.int .i64 q.2.1) ∧ w.cell? (a.add (i * 3 + 2)) = some (.int .i64 q.2.2) := by
      intro i hi
      obtain ⟨cs', h1, h2⟩ := hel i (by omega)
      rw [hc] at h1
      obtain ⟨_, hlen, hcell⟩ := World.cells?_some h1
      obtain ⟨y0, y1, y2, n', _, _, g0, g1, g2⟩ := trod_struct3 he h2
      match cs', hlen with
      | [v0, v1, v2], _ =>
        rw [o0, c0] at g0
        rw [o1, c1] at g1
        rw [o2, c2] at g2
        simp at g0 g1 g2
        obtain ⟨n0, e0, _⟩ := DataW.trod_int t0 g0
        obtain ⟨n1, e1, _⟩ := DataW.trod_int t1 g1
        obtain ⟨n2, e2, _⟩ := DataW.trod_int t2 g2
        simp at e0 e1 e2
        subst e0 e1 e2
        have k0 := hcell 0 (by decide)
        have k1 := hcell 1 (by decide)
        have k2 := hcell 2 (by decide)
        have addadd : ∀ (b : Addr) (p q : Nat), 0 < q → (b.add p).add q = b.add (p + q) := fun b p q hq => by
          unfold Addr.add
          rw [if_neg (show ¬q = 0 by omega), if_neg (show ¬p + q = 0 by omega)]
          split <;> simp_all [Nat.add_assoc]
        have add0 : ∀ b : Addr, b.add 0 = b := fun b => rfl
        rw [add0] at k0
        rw [addadd _ _ _ (by decide)] at k1 k2
        exact ⟨(n0, n1, n2), by simpa using k0, by simpa using k1, by simpa using k2⟩
    obtain ⟨V, hV⟩ := choose_lt (α := Int × Int × Int) each
    have hlen : ∀ l : List (Int × Int × Int), (l.flatMap fun a : Int × Int × Int => [AV.int .i64 a.1, .int .i64 a.2.1, .int .i64 a.2.2]).length = l.length * 3 := by
      intro l
      induction l with
      | nil => rfl
      | cons a l ih => rw [List.flatMap_cons, List.length_append, ih]; simp; omega
    have hget : ∀ (l : List (Int × Int × Int)) (i : Nat) (hi : i < l.length), (l.flatMap fun a : Int × Int × Int => [AV.int .i64 a.1, .int .i64 a.2.1, .int .i64 a.2.2])[i * 3]? = some (.int .i64 l[i].1) ∧
        (l.flatMap fun a : Int × Int × Int => [AV.int .i64 a.1, .int .i64 a.2.1, .int .i64 a.2.2])[i * 3 + 1]? = some (.int .i64 l[i].2.1) ∧ (l.flatMap fun a : Int × Int × Int => [AV.int .i64 a.1, .int .i64 a.2.1, .int .i64 a.2.2])[i * 3 + 2]? = some (.int .i64 l[i].2.2) := by
      intro l
      induction l with
      | nil => intro i hi; simp at hi
      | cons a l ih =>
        intro i hi
        cases i with
        | zero => exact ⟨rfl, rfl, rfl⟩
        | succ i =>
          have := ih i (by simpa using hi)
          rw [show (i + 1) * 3 = i * 3 + 1 + 1 + 1 by omega]
          exact this
    have := absSl_at (w := w) (a := a) (len := len) (cap := cap) (sz := 3) (by decide) hl (cs := ((List.range len).map V).flatMap fun a : Int × Int × Int => [.int .i64 a.1, .int .i64 a.2.1, .int .i64 a.2.2]) (by rw [hlen]; simp) fun k hk => ?_
    · exact ⟨_, _, this.1, this.2⟩
    · obtain ⟨i, hi, hk3⟩ : ∃ i, i < len ∧ (k = i * 3 ∨ k = i * 3 + 1 ∨ k = i * 3 + 2) := ⟨k / 3, by omega, by omega⟩
      obtain ⟨g0, g1, g2⟩ := hget ((List.range len).map V) i (by simpa using hi)
      obtain ⟨v0, v1, v2⟩ := hV i hi
      simp only [List.getElem_map, List.getElem_range] at g0 g1 g2
      rcases hk3 with e | e | e <;> subst e
      · exact ⟨_, v0, g0⟩
      · exact ⟨_, v1, g1⟩
      · exact ⟨_, v2, g2⟩
end
end Go.Abs
