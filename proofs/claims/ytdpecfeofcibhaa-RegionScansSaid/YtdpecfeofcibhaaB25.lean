/- What arguments are, further: lists of bytes' lists; a struct of three integers. -/
import Derived.Test.YtdpecfeofcibhaaB0
import Derived.Test.YtdpecfeofcibhaaB15
import Derived.WideShapes
namespace Go.Abs
open Go.ChangeShapes Go.WideShapes Go.RowKit Go.Deep

def IsMat (h : AH) (s : Option Sl) (l : List (List UInt8)) : Prop := ∃ px, Mat h s px l

section
variable {H : Type} {enc : TypeId × Value → H} {P : Program} {w : World} {base : Nat} {spare : Nat → Bool} {held : Bool}

/-- Made from what is there at each place. -/
theorem All2.tab {α β : Type} {R : α → β → Prop} (f : Nat → α) (g : Nat → β) (n : Nat) (h : ∀ i, i < n → R (f i) (g i)) : All2 R ((List.range n).map f) ((List.range n).map g) :=
  All2.maps _ _ _ fun i hi => h i (by simpa using hi)
theorem slices_of {w : World} {len : Nat} {V : Nat → Value × Option Sl × List UInt8} (hV : ∀ i, i < len → absV w (V i).1 = .slice (V i).2.1 ∧ By (absH w) (V i).2.1 (V i).2.2) :
    Bys (absH w) ((List.range len).map fun i => (V i).2.1) ((List.range len).map fun i => (V i).2.2) :=
  All2.tab _ _ _ fun i hi => (hV i hi).2

/-- A list of bytes' lists. -/
theorem arg_mat {t e b : TypeId} {fuel : Nat} {v : Value} {x : DataW H × List MemPlace} (ht : P.underlying t = some (.slice e)) (he : P.underlying e = some (.slice b)) (hb : P.underlying b = some (.int .u8)) (hc : P.cellsOf e = 1) (hcb : P.cellsOf b = 1)
    (h : DataW.trod enc P w base spare held fuel t [v] = some x) : ∃ s l, absV w v = .slice s ∧ IsMat (absH w) s l := by
  rcases open_slice ht h with ⟨hv, _⟩ | ⟨a, len, cap, m, n, D, Pl, hv, _, hl, _, hm, _, hel⟩
  · simp at hv; subst hv
    exact ⟨none, [], rfl, [], rfl, trivial⟩
  · simp at hv; subst hv
    have hlm : len ≤ m := by rw [hm]; split <;> omega
    have each : ∀ i, i < len → ∃ q : Value × Option Sl × List UInt8, w.cell? (a.add i) = some q.1 ∧ absV w q.1 = .slice q.2.1 ∧ By (absH w) q.2.1 q.2.2 := by
      intro i hi
      obtain ⟨cs', h1, h2⟩ := hel i (by omega)
      rw [hc] at h1
      obtain ⟨_, hlen, hcell⟩ := World.cells?_some h1
      match cs', hlen with
      | [v0], _ =>
        obtain ⟨s, l, e1, e2⟩ := arg_bytes he hb hcb h2
        have k0 := hcell 0 (by decide)
        exact ⟨(v0, s, l), by simpa [Addr.add] using k0, e1, e2⟩
    obtain ⟨V, hV⟩ := choose_lt (α := Value × Option Sl × List UInt8) each
    have := absSl_at (w := w) (a := a) (len := len) (cap := cap) (sz := 1) (by decide) hl (cs := slCells ((List.range len).map fun i => (V i).2.1)) (by simp [slCells]) fun k hk => ?_
    · exact ⟨_, _, this.1, _, ⟨this.2, slices_of fun i hi => (hV i hi).2⟩⟩
    · have hk' : k < len := by omega
      refine ⟨(V k).1, (hV k hk').1, ?_⟩
      rw [(hV k hk').2.1]
      simp [slCells, hk']

/-- A struct of three integers. -/
theorem open_st3 {r : Reach} {b0 : Nat} {t : TypeId} {f0 f1 f2 : Field} {v : Value} {d : DataW H} {ps : List MemPlace} (ht : P.underlying t = some (.struct #[f0, f1, f2])) (hc : P.cellsOf t = 3)
    (o0 : f0.offset = 0) (o1 : f1.offset = 1) (o2 : f2.offset = 2) (c0 : P.cellsOf f0.type = 1) (c1 : P.cellsOf f1.type = 1) (c2 : P.cellsOf f2.type = 1)
    (t0 : P.underlying f0.type = some (.int .i64)) (t1 : P.underlying f1.type = some (.int .i64)) (t2 : P.underlying f2.type = some (.int .i64))
    (hval : Value.okWide P w r b0 t v) (h : DataW.Trod enc P w base spare held t v d ps) : ∃ x y z : Int, v = .agg #[.int .i64 x, .int .i64 y, .int .i64 z] := by
  obtain ⟨cs, rfl, hsz⟩ := okWide_struct ht hval
  obtain ⟨fuel, hf⟩ := h
  obtain ⟨y0, y1, y2, n', _, _, g0, g1, g2⟩ := trod_struct3 ht hf
  obtain ⟨l⟩ := cs
  simp only [Value.cells] at g0 g1 g2
  rw [hc] at hsz
  match l, hsz with
  | [v0, v1, v2], _ =>
    rw [o0, c0] at g0
    rw [o1, c1] at g1
    rw [o2, c2] at g2
    simp at g0 g1 g2
    obtain ⟨n0, e0, _⟩ := DataW.trod_int t0 g0
    obtain ⟨n1, e1, _⟩ := DataW.trod_int t1 g1
    obtain ⟨n2, e2, _⟩ := DataW.trod_int t2 g2
    simp at e0 e1 e2
    subst e0 e1 e2
    exact ⟨n0, n1, n2, rfl⟩
theorem rel_st3 {σ : Sig} (x y z : Int) : VRel σ (.agg [.int .i64 x, .int .i64 y, .int .i64 z]) (.agg #[.int .i64 x, .int .i64 y, .int .i64 z]) := by
  refine .agg _ _ rfl fun i a b ha hb => ?_
  match i, ha, hb with
  | 0, ha, hb => simp at ha hb; subst ha hb; exact .int _ _
  | 1, ha, hb => simp at ha hb; subst ha hb; exact .int _ _
  | 2, ha, hb => simp at ha hb; subst ha hb; exact .int _ _
  | i + 3, ha, hb => simp at ha
theorem rel_of {w : World} {v : Value} {a : AV} (h : absV w v = a) : VRel (absS w) a v := h ▸ absV_rel w v
end
end Go.Abs
