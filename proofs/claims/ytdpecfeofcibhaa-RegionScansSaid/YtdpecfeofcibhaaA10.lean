/- What the abstract machine says of append and copy holds of the model's. -/
import Derived.Test.YtdpecfeofcibhaaA9
namespace Go.Abs
section
variable {σ : Sig} {P : Program} {w : World} {h : AH}

/-- What is appended or copied, in the world: so many elements, these cells. -/
structure News (P : Program) (w : World) (size : Nat) (u : Value) (us : List Value) (n : Nat) : Prop where
  len : us.length = n * size
  lenOf : ∀ w' : World, w'.heap = w.heap → (Builtin.lenOf u).run P w' = .ok n w'
  cells : ∀ w' : World, w'.heap = w.heap → ∀ m, m ≤ n → (Builtin.firstCells size m u).run P w' = .ok (us.take (m * size)).toArray w'

theorem cells_other {w' : World} (hw : w'.heap = w.heap) {a : Addr} {us : List Value} (hc : ∀ j u, us[j]? = some u → w.cell? (a.add j) = some u) (n : Nat) (hn : n ≤ us.length) : (loadCells a n).run P w' = .ok (us.take n).toArray w' := by
  have hc' : ∀ j u, (us.take n)[j]? = some u → w'.cell? (a.add j) = some u := by
    intro j u hu
    rw [List.getElem?_take] at hu
    split at hu
    · have := hc j u hu
      unfold World.cell? at this ⊢; rw [hw]; exact this
    · cases hu
  have := run_loadCells_list (P := P) w' a _ hc'
  rwa [List.length_take, Nat.min_eq_left hn] at this

theorem aNews_sound (H : HRel σ h w) {size : Nat} {x : AV} {u : Value} {K : List AV → Nat → Prop} (hx : VRel σ x u) (hh : aNews h size x K) :
    ∃ new n us, K new n ∧ VRels σ new us ∧ News P w size u us n := by
  unfold aNews at hh
  split at hh
  · obtain rfl := hx.of_slice0
    refine ⟨_, _, [], hh, trivial, by simp, fun w' _ => by simp [Builtin.lenOf], fun w' _ m hm => ?_⟩
    obtain rfl : m = 0 := by omega
    simp [Builtin.firstCells]
  · rename_i s
    obtain ⟨cs, hc, hh⟩ := ob_iff.1 hh
    obtain ⟨a, len, cap, rfl, hs⟩ := hx.of_slice
    have hl := hs.len
    subst hl
    unfold AH.sliceAt at hc
    split at hc
    · rename_i h0
      cases hc
      refine ⟨_, _, [], hh, trivial, by simp [h0], fun w' _ => by simp [Builtin.lenOf], fun w' _ m hm => ?_⟩
      obtain rfl : m = 0 := by omega
      simp [Builtin.firstCells, loadCells, loadCellsFrom]
    · rename_i h0
      have hne : s.slack ≠ some 0 := fun h1 => by have := hs.none0 h1; have := hs.le; omega
      obtain ⟨us, h1, h2, h3, _⟩ := H.cells (P := P) hc (hs.at_ hne)
      refine ⟨_, _, us, hh, h2, h1, fun w' _ => by simp [Builtin.lenOf], fun w' hw m hm => ?_⟩
      have hle : m * size ≤ us.length := by rw [h1]; exact Nat.mul_le_mul_right _ hm
      simpa [Builtin.firstCells] using cells_other (P := P) hw h3 (m * size) hle
  · rename_i s
    obtain ⟨rfl, hh⟩ := ite_fail.1 hh
    obtain ⟨b, rfl, hbs⟩ := hx.of_str
    have hsz : b.size = s.length := by rw [← hbs, Array.length_toList]; rfl
    refine ⟨_, _, s.map fun b => Value.int .u8 b.toNat, hh, All2.maps _ _ _ fun x _ => .int _ _, by simp, fun w' _ => by simp [Builtin.lenOf, hsz], fun w' _ m hm => ?_⟩
    simp only [Builtin.firstCells, Sem.run_pure, Nat.mul_one]
    congr 1
    apply Array.ext'
    rw [List.toList_toArray, Array.toList_map, ByteArray.data_extract, Array.toList_extract, List.extract_eq_take_drop, hbs]
    simp [List.map_take]
  · exact hh.elim

theorem isSeqD_cases {d : TypeDesc} (hd : isSeqD d = true) : (∃ e, d = .slice e) ∨ d = .string := by
  unfold isSeqD at hd; split at hd
  · exact .inl ⟨_, rfl⟩
  · exact .inr rfl
  · cases hd

section append
variable {t u ty e : TypeId} {d : TypeDesc} {i : TypeInfo} {z : Value} {x : Value} {us : List Value} {n : Nat}
variable (ht : P.underlying t = some (.slice e)) (hu : P.underlying u = some d) (hd : isSeqD d = true) (hi : P.info? e = some i) (hz : i.zero = some z) (hx : News P w i.size x us n)
include ht hu hd hi hx

theorem run_append_in {base : Option Addr} {sLen sCap : Nat} (hroom : sLen + n ≤ sCap) :
    (Builtin.append_ #[t, u] ty #[.slice base sLen sCap, x]).run P w =
      (Sem.run P (match base with | some a => storeCells (a.add (sLen * i.size)) us | none => (pure () : Sem Unit)) w).andThen fun _ w' => .ok (.slice base (sLen + n) sCap) w' := by
  have h1 := hx.lenOf w rfl
  have h2 := hx.cells w rfl n (Nat.le_refl _)
  rw [← hx.len, List.take_length] at h2
  rcases isSeqD_cases hd with ⟨e', rfl⟩ | rfl <;> cases base <;> simp [Builtin.append_, run_underlying ht, run_underlying hu, sizeOf, typeInfo, hi, h1, hroom, h2]

include hz in
theorem run_append_out {base : Option Addr} {sLen sCap : Nat} {olds : List Value} (hg : sCap < sLen + n) (hb : (sLen + n) * i.bytes ≤ 70368744177664) (hb0 : i.bytes ≠ 0) (hfo : (Builtin.firstCells i.size sLen (.slice base sLen sCap)).run P w.drew = .ok olds.toArray w.drew) :
    (Builtin.append_ #[t, u] ty #[.slice base sLen sCap, x]).run P w =
      .ok (.slice (some ⟨w.heap.size, 0, none⟩) (sLen + n) (grownCap w (sLen + n) sCap e))
        (w.drew.alloc (.cells (olds.toArray ++ us.toArray ++ Builtin.zeroCells z.cells (grownCap w (sLen + n) sCap e - (sLen + n))) e)) := by
  have h1 := hx.lenOf w rfl
  have h2 := hx.cells w.drew rfl n (Nat.le_refl _)
  rw [← hx.len, List.take_length] at h2
  have hn : ¬ (sLen + n ≤ sCap) := by omega
  have hle : sLen + n ≤ (sLen + n) * i.bytes := Nat.le_mul_of_pos_right _ (by omega)
  have hfit := growslice_fits (need := sLen + n) (old := sCap) hg (bytes := i.bytes) (by omega)
  have h48' : ¬ (281474976710656 < Builtin.nextslicecap (sLen + n) sCap * i.bytes) := by omega
  rcases isSeqD_cases hd with ⟨e', rfl⟩ | rfl
  · simp [Builtin.append_, run_underlying ht, run_underlying hu, sizeOf, typeInfo, zeroValue, hi, hz, h1, hn, hb0, h48', Question.forced, hfo, h2, newRow, grownCap]
    congr 2
    apply Array.ext'
    simp [List.append_assoc]
  · simp [Builtin.append_, run_underlying ht, run_underlying hu, sizeOf, typeInfo, zeroValue, hi, hz, h1, hn, hb0, h48', Question.forced, hfo, h2, newRow, grownCap]
    congr 2
    apply Array.ext'
    simp [List.append_assoc]
end append

end
end Go.Abs
