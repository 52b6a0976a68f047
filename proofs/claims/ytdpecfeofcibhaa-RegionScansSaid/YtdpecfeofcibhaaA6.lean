/- What the abstract machine says of an operation that reads memory, makes a block or stores holds of the model's. -/
import Derived.Test.YtdpecfeofcibhaaA5
import Derived.MapKept
namespace Go.Abs

def setBlk (w : World) (b : Nat) (o : Obj) : World := { w with heap := w.heap.setIfInBounds b o }

section
variable {σ : Sig} {P : Program} {w : World} {h : AH}

theorem setBlk_same {b : Nat} {o : Obj} (hb : b < w.heap.size) : (setBlk w b o).heap[b]? = some o := by simp [setBlk, hb]
theorem setBlk_other {b k : Nat} {o : Obj} (hk : k ≠ b) : (setBlk w b o).heap[k]? = w.heap[k]? := by simp [setBlk, Array.getElem?_setIfInBounds_ne (Ne.symm hk)]
theorem setBlk_size {b : Nat} {o : Obj} : (setBlk w b o).heap.size = w.heap.size := by simp [setBlk]
theorem setBlk_setBlk {b : Nat} {o o' : Obj} : setBlk (setBlk w b o) b o' = setBlk w b o' := by
  simp only [setBlk]; congr 1
  apply Array.ext_getElem?
  intro i
  simp only [Array.getElem?_setIfInBounds]
  split <;> simp
theorem setBlk_self {b : Nat} {o : Obj} (hb : w.heap[b]? = some o) : setBlk w b o = w := by
  have : w.heap.setIfInBounds b o = w.heap := by
    apply Array.ext_getElem?
    intro i
    simp only [Array.getElem?_setIfInBounds]
    split
    · rename_i hi; subst hi
      have hlt := (Array.getElem?_eq_some_iff.1 hb).1
      simp [hlt]
      exact (by simpa [hlt] using hb : w.heap[b] = o).symm
    · rfl
  unfold setBlk; rw [this]

theorem setCell_eq {b o : Nat} {v : Value} {d : Array Value} {T : TypeId} {fr : Nat × Nat} (hb : w.heap[b]? = some (.cells d T fr)) : w.setCell ⟨b, o, none⟩ v = setBlk w b (.cells (d.setIfInBounds o v) T fr) := by
  unfold World.setCell setBlk; congr 1
  apply Array.ext_getElem?
  intro i
  have hlt := (Array.getElem?_eq_some_iff.1 hb).1
  simp only [Array.getElem?_modify, Array.getElem?_setIfInBounds]
  split
  · rename_i hi; subst hi; rw [hb]; simp [hlt]
  · rfl

theorem run_storeCells' {b base : Nat} {T : TypeId} {fr : Nat × Nat} : ∀ (vs : List Value) (i : Nat) (d : Array Value) (w : World), w.heap[b]? = some (.cells d T fr) → base + i + vs.length ≤ d.size →
    (∀ k, k < d.size → ¬ (fr.1 ≤ k ∧ k < fr.2)) → (∀ v ∈ vs, v.oneCell' = true) →
    (storeCells ⟨b, base, none⟩ vs i).run P w = .ok () (setBlk w b (.cells (d.toList.take (base + i) ++ vs ++ d.toList.drop (base + i + vs.length)).toArray T fr))
  | [], i, d, w, hb, _, _, _ => by simp [storeCells, setBlk_self hb]
  | v :: vs, i, d, w, hb, hl, hf, h1 => by
    simp only [List.length_cons] at hl
    have hlt := (Array.getElem?_eq_some_iff.1 hb).1
    have hcell : w.cell? ⟨b, base + i, none⟩ = some d[base + i] := by simp [World.cell?, hb]
    have hfr : w.frozen? ⟨b, base + i, none⟩ = false := by
      have := hf (base + i) (by omega)
      simp only [World.frozen?, hb, Bool.and_eq_false_iff, decide_eq_false_iff_not]
      by_cases h1 : fr.1 ≤ base + i
      · exact .inr fun h2 => this ⟨h1, h2⟩
      · exact .inl h1
    have hst : (store ((⟨b, base, none⟩ : Addr).add i) v).run P w = .ok () (setBlk w b (.cells (d.setIfInBounds (base + i) v) T fr)) := by
      rw [Addr.add_lit, run_store P w _ v .plain (h1 v (by simp)), hcell]
      simp only [hfr, Bool.false_eq_true, if_false, setCell_eq hb]
    have ih := run_storeCells' (base := base) vs (i + 1) (d.setIfInBounds (base + i) v) (setBlk w b (.cells (d.setIfInBounds (base + i) v) T fr)) (setBlk_same hlt) (by simp; omega) (by simpa using hf) (fun u hu => h1 u (by simp [hu]))
    simp only [storeCells, Sem.run_bind, hst, Result.andThen_ok, ih, setBlk_setBlk]
    congr 4
    simp only [Array.toList_setIfInBounds, List.length_cons]
    have hc : base + i < d.toList.length := by simp; omega
    have e1 : (d.toList.set (base + i) v).take (base + (i + 1)) = d.toList.take (base + i) ++ [v] := by
      rw [show base + (i + 1) = (base + i) + 1 by omega, List.take_add_one, List.take_set_of_le (by omega)]
      simp
      exact List.getElem?_set_self hc
    rw [e1, List.drop_set_of_lt (by omega), show base + (i + 1) + vs.length = base + i + (vs.length + 1) by omega]
    simp

/-- A row of the abstract heap, in the world. -/
structure RowAt (σ : Sig) (w : World) (i : Nat) (c : List AV) (ro : Bool) (b base dsz : Nat) (d : Array Value) (T : TypeId) (fr : Nat × Nat) : Prop where
  sig : σ[i]? = some (.live b base dsz)
  blk : w.heap[b]? = some (.cells d T fr)
  size : d.size = dsz
  fits : base + c.length ≤ dsz
  free : ro = false → ∀ k, k < dsz → ¬ (fr.1 ≤ k ∧ k < fr.2)
  rel : VRels σ c ((d.toList.drop base).take c.length)

theorem HRel.rowAt (H : HRel σ h w) {i : Nat} {c : List AV} {ro : Bool} (hi : h[i]? = some (.cells c ro)) : ∃ b base dsz d T fr, RowAt σ w i c ro b base dsz d T fr := by
  obtain ⟨e, he, hB⟩ := H.lookup hi
  cases e <;> simp only [BRel] at hB
  obtain ⟨d, T, fr, h1, h2, h3, h4, h5⟩ := hB
  exact ⟨_, _, _, d, T, fr, he, h1, h2, h3, h4, h5⟩

theorem row_iff {i : Nat} {c : List AV} : h.row i = some c ↔ ∃ ro, h[i]? = some (.cells c ro) := by
  unfold AH.row
  constructor
  · intro hr; split at hr
    · rename_i ro hi; cases hr; exact ⟨_, hi⟩
    · cases hr
  · rintro ⟨ro, hi⟩; simp [hi]

theorem RowAt.addr {i : Nat} {c : List AV} {ro : Bool} {b base dsz : Nat} {d : Array Value} {T : TypeId} {fr : Nat × Nat} (hr : RowAt σ w i c ro b base dsz d T fr) {o : Nat} {a : Addr} (ha : ARel σ i o a) : a = ⟨b, base + o, none⟩ := by
  unfold ARel at ha; rw [hr.sig] at ha; exact ha

theorem RowAt.seg {i : Nat} {c : List AV} {ro : Bool} {b base dsz : Nat} {d : Array Value} {T : TypeId} {fr : Nat × Nat} (hr : RowAt σ w i c ro b base dsz d T fr) {o n : Nat} (hn : o + n ≤ c.length) :
    VRels σ ((c.drop o).take n) ((d.toList.drop (base + o)).take n) := by
  have := (hr.rel.drop o).take n
  rw [List.drop_take, List.drop_drop, List.take_take, show min n (c.length - o) = n by omega] at this
  exact this

theorem HRel.cells (H : HRel σ h w) {i o n : Nat} {cs : List AV} {a : Addr} (hc : h.cellsAt i o n = some cs) (ha : ARel σ i o a) :
    ∃ us : List Value, us.length = n ∧ VRels σ cs us ∧ (∀ j u, us[j]? = some u → w.cell? (a.add j) = some u) ∧ (loadCells a n).run P w = .ok us.toArray w := by
  unfold AH.cellsAt at hc
  cases hrow : h.row i with
  | none => simp [hrow] at hc
  | some c =>
    simp only [hrow, Option.bind_some] at hc
    split at hc
    · rename_i hn
      cases hc
      obtain ⟨ro, hi⟩ := row_iff.1 hrow
      obtain ⟨b, base, dsz, d, T, fr, hr⟩ := H.rowAt hi
      have ha := hr.addr ha
      subst ha
      have hseg := hr.seg hn
      have hfit := hr.fits
      have hsz := hr.size
      have hlen : ((d.toList.drop (base + o)).take n).length = n := by simp; omega
      have hcell : ∀ j u, ((d.toList.drop (base + o)).take n)[j]? = some u → w.cell? ((⟨b, base + o, none⟩ : Addr).add j) = some u := by
        intro j u hu
        rw [Addr.add_lit, cell_of_row w b _ d T fr hr.blk]
        rw [List.getElem?_take] at hu
        split at hu
        · simpa using hu
        · cases hu
      refine ⟨_, hlen, hseg, hcell, ?_⟩
      have := run_loadCells_list (P := P) w ⟨b, base + o, none⟩ _ hcell
      rwa [hlen] at this
    · cases hc

theorem cell_cellsAt {i o : Nat} {v : AV} (hc : h.cell i o = some v) : h.cellsAt i o 1 = some [v] := by
  unfold AH.cell at hc
  unfold AH.cellsAt
  cases hrow : h.row i with
  | none => simp [hrow] at hc
  | some c =>
    simp only [hrow, Option.bind_some] at hc ⊢
    obtain ⟨hlt, hv⟩ := List.getElem?_eq_some_iff.1 hc
    rw [if_pos (by omega)]
    congr 1
    rw [List.drop_eq_getElem_cons hlt, hv]
    simp

theorem HRel.cell (H : HRel σ h w) {i o : Nat} {v : AV} {a : Addr} (hc : h.cell i o = some v) (ha : ARel σ i o a) : ∃ u, w.cell? a = some u ∧ VRel σ v u := by
  obtain ⟨us, hl, hr, hcell, _⟩ := H.cells (P := default) (cell_cellsAt hc) ha
  obtain ⟨u, hu, hvu⟩ := hr.get 0 v rfl
  refine ⟨u, ?_, hvu⟩
  have := hcell 0 u hu
  simpa [Addr.add] using this

/-- Cells are stored. -/
theorem HRel.store (H : HRel σ h w) {i o : Nat} {vs : List AV} {us : List Value} {h' : AH} {a : Addr} (hp : h.puts i o vs = some h') (ha : ARel σ i o a) (hv : VRels σ vs us) (h1 : vs.all AV.scal = true) :
    ∃ w', (storeCells a us).run P w = .ok () w' ∧ Step σ h w σ h' w' := by
  unfold AH.puts at hp
  split at hp
  · rename_i c hi
    split at hp
    · rename_i hlen
      cases hp
      obtain ⟨b, base, dsz, d, T, fr, hr⟩ := H.rowAt hi
      have ha := hr.addr ha
      subst ha
      have hl := hv.length
      have hfit := hr.fits
      have hsz := hr.size
      have hone : ∀ u ∈ us, u.oneCell' = true := by
        intro u hu
        obtain ⟨j, hj, hju⟩ := List.mem_iff_getElem.1 hu
        have hj' : j < vs.length := by omega
        obtain ⟨u', hu', hr'⟩ := hv.get j vs[j] (by simp [hj'])
        rw [List.getElem?_eq_getElem hj, hju] at hu'
        cases hu'
        exact hr'.scal_oneCell (List.all_eq_true.1 h1 _ (List.getElem_mem hj'))
      have hlt := (Array.getElem?_eq_some_iff.1 hr.blk).1
      have hrun := run_storeCells' (P := P) (base := base + o) us 0 d w hr.blk (by omega) (by rw [hsz]; exact hr.free rfl) hone
      refine ⟨_, hrun, Step.upd H hr.sig hi rfl rfl rfl rfl (by rw [setBlk_size]; exact Nat.le_refl _) (fun k _ hk => setBlk_other hk) ?_⟩
      refine ⟨_, T, fr, setBlk_same hlt, by simp; omega, by simp; omega, hr.free, ?_⟩
      simp only [Nat.add_zero]
      have e : ((d.toList.take (base + o) ++ us ++ d.toList.drop (base + o + us.length)).drop base).take (c.take o ++ vs ++ c.drop (o + vs.length)).length =
          ((d.toList.drop base).take c.length).take o ++ us ++ ((d.toList.drop base).take c.length).drop (o + us.length) := by
        have hlen2 : (c.take o ++ vs ++ c.drop (o + vs.length)).length = c.length := by simp; omega
        rw [hlen2]
        apply List.ext_getElem?
        intro j
        simp only [List.getElem?_take, List.getElem?_drop, List.getElem?_append, List.length_append, List.length_take, List.length_drop, Array.length_toList]
        by_cases h1 : j < o
        · simp [show j < c.length by omega, show base + j < min (base + o) d.size by omega, show base + j < min (base + o) d.size + us.length by omega, show j < min o (min c.length (d.size - base)) by omega,
            show j < min o (min c.length (d.size - base)) + us.length by omega, h1, show base + j < base + o by omega]
        · by_cases h2 : j < o + us.length
          · simp [show j < c.length by omega, show ¬ base + j < min (base + o) d.size by omega, show base + j < min (base + o) d.size + us.length by omega, show ¬ j < min o (min c.length (d.size - base)) by omega,
              show j < min o (min c.length (d.size - base)) + us.length by omega]
            congr 1; omega
          · by_cases h3 : j < c.length
            · simp [h3, show ¬ base + j < min (base + o) d.size by omega, show ¬ base + j < min (base + o) d.size + us.length by omega, show ¬ j < min o (min c.length (d.size - base)) by omega,
                show ¬ j < min o (min c.length (d.size - base)) + us.length by omega]
              rw [if_pos (by omega)]
              congr 1; omega
            · simp [h3, show ¬ j < min o (min c.length (d.size - base)) by omega, show ¬ j < min o (min c.length (d.size - base)) + us.length by omega]
              intro hx; omega
      show VRels σ _ ((List.drop base (List.toArray _).toList).take _)
      rw [List.toList_toArray, e, hl]
      exact ((hr.rel.take o).append hv).append (hr.rel.drop _)
    · cases hp
  · cases hp

/-- A row is made. -/
theorem HRel.newRow (H : HRel σ h w) {T : TypeId} {cs : List AV} {us : Array Value} (hr : VRels σ cs (us.toList.take cs.length)) (hl : cs.length ≤ us.size) :
    Step σ h w (σ ++ [.live w.heap.size 0 us.size]) (h ++ [.cells cs false]) (w.alloc (.cells us T)) := by
  refine Step.new H rfl rfl rfl (by simp) (fun k hk => heap_alloc_old w _ k hk) ?_
  refine ⟨us, T, (0, 0), heap_alloc_new w _, rfl, by omega, fun _ k _ hk => by omega, ?_⟩
  rw [List.drop_zero]; exact hr.mono (SigLe.append _ _)

theorem HRel.bornRow (H : HRel σ h w) {T : TypeId} {i : Nat} {cs : List AV} {us : Array Value} (hi : h[i]? = some .unborn) (hr : VRels σ cs (us.toList.take cs.length)) (hl : cs.length ≤ us.size) :
    Step σ h w (σ.set i (.live w.heap.size 0 us.size)) (h.set i (.cells cs false)) (w.alloc (.cells us T)) := by
  obtain ⟨e0, he0, hb0⟩ := H.lookup hi
  have hun : e0 = .unborn := by cases e0 <;> simp_all [BRel]
  subst hun
  refine Step.birth H hi rfl rfl rfl (by simp) (fun k hk => heap_alloc_old w _ k hk) ?_
  refine ⟨us, T, (0, 0), heap_alloc_new w _, rfl, by omega, fun _ k _ hk => by omega, ?_⟩
  rw [List.drop_zero]; exact hr.mono (SigLe.set he0 trivial)

end
end Go.Abs
