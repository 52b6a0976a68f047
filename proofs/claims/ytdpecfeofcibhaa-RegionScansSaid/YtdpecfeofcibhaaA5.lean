/- What the abstract machine says of an operation that reads no memory holds of the model's: slices, literals, and all of them. -/
import Derived.Test.YtdpecfeofcibhaaA4
namespace Go.Abs
section
variable {σ : Sig} {P : Program} {w : World}

/-! ## Slice expressions -/


theorem VRel.of_num {k : IntKind} {n : Int} {u : Value} (h : VRel σ (.int k n) u) : u = .int k n := h.of_int

/-- The bounds of a slice expression without a third one. -/
theorem aBounds_sound {len cap cap' : Nat} {sl : Bool} {low high : Option AV} {low' high' : Option Value} {K : Nat → Nat → Prop} (hlc : len ≤ cap) (hc : cap ≤ cap')
    (hl : ∀ v, low = some v → ∃ u, low' = some u ∧ VRel σ v u) (hl0 : low = none → low' = none) (hh : ∀ v, high = some v → ∃ u, high' = some u ∧ VRel σ v u) (hh0 : high = none → high' = none)
    (h : aBounds len cap low high K) : ∃ l m, K l m ∧ l ≤ m ∧ m ≤ cap ∧ (high = none → m = len) ∧ (Instr.sliceBounds sl len cap' low' high' none).run P w = .ok (l, m, cap') w := by
  unfold aBounds at h
  split at h
  · rename_i v
    simp only [chkNum_iff, ite_fail] at h
    obtain ⟨k, b, rfl, ⟨hb0, hb1⟩, h⟩ := h
    obtain ⟨u, rfl, hu⟩ := hh _ rfl
    obtain rfl := hu.of_int
    have hb' : 0 ≤ b ∧ b ≤ (cap' : Int) := ⟨hb0, by omega⟩
    split at h
    · rename_i v
      obtain ⟨k', a, rfl, ⟨ha0, ha1⟩, h⟩ := h
      obtain ⟨u, rfl, hu⟩ := hl _ rfl
      obtain rfl := hu.of_int
      refine ⟨_, _, h, by omega, by omega, by simp, ?_⟩
      simp [Instr.sliceBounds, Instr.sliceBound, asIntOf, hb', ha0, ha1]
      intro hc; omega
    · obtain rfl := hl0 rfl
      refine ⟨_, _, h, by omega, by omega, by simp, ?_⟩
      simp [Instr.sliceBounds, Instr.sliceBound, asIntOf, hb']
  · obtain rfl := hh0 rfl
    split at h
    · rename_i v
      simp only [chkNum_iff, ite_fail] at h
      obtain ⟨k', a, rfl, ⟨ha0, ha1⟩, h⟩ := h
      obtain ⟨u, rfl, hu⟩ := hl _ rfl
      obtain rfl := hu.of_int
      refine ⟨_, _, h, by omega, by omega, by simp, ?_⟩
      simp [Instr.sliceBounds, Instr.sliceBound, asIntOf, ha0, ha1]
    · obtain rfl := hl0 rfl
      refine ⟨_, _, h, by omega, by omega, by simp, ?_⟩
      simp [Instr.sliceBounds]

/-- The bounds of a slice expression with a third one. -/
theorem aBounds3_sound {len cap' : Nat} {m : Int} {sl : Bool} {k : IntKind} {low high : Option AV} {low' high' : Option Value} {K : Nat → Nat → Prop} (hm0 : 0 ≤ m) (hm1 : m ≤ cap') (hhs : high ≠ none)
    (hl : ∀ v, low = some v → ∃ u, low' = some u ∧ VRel σ v u) (hl0 : low = none → low' = none) (hh : ∀ v, high = some v → ∃ u, high' = some u ∧ VRel σ v u)
    (h : aBounds len m.toNat low high K) : ∃ l r, K l r ∧ l ≤ r ∧ r ≤ m.toNat ∧ (Instr.sliceBounds sl len cap' low' high' (some (.int k m))).run P w = .ok (l, r, m.toNat) w := by
  unfold aBounds at h
  split at h
  · rename_i v
    simp only [chkNum_iff, ite_fail] at h
    obtain ⟨k, b, rfl, ⟨hb0, hb1⟩, h⟩ := h
    obtain ⟨u, rfl, hu⟩ := hh _ rfl
    obtain rfl := hu.of_int
    have hb1' : b ≤ max m 0 := by omega
    split at h
    · rename_i v
      obtain ⟨k', a, rfl, ⟨ha0, ha1⟩, h⟩ := h
      obtain ⟨u, rfl, hu⟩ := hl _ rfl
      obtain rfl := hu.of_int
      refine ⟨_, _, h, by omega, by omega, ?_⟩
      simp [Instr.sliceBounds, Instr.sliceBound, asIntOf, hm0, hm1, hb0, hb1', ha0, ha1]
      intro hc; omega
    · obtain rfl := hl0 rfl
      refine ⟨_, _, h, by omega, by omega, ?_⟩
      simp [Instr.sliceBounds, Instr.sliceBound, asIntOf, hm0, hm1, hb0, hb1']
  · exact absurd rfl hhs

theorem SlRel.cut {s : Sl} {a : Addr} {len cap l h size : Nat} (hr : SlRel σ s a len cap) (hok : s.cutOk size = true) (hlh : l ≤ h) (hhl : h ≤ s.len) :
    SlRel σ (s.cut size l h) (if cap = l then a else a.add (l * size)) (h - l) (cap - l) := by
  have h1 := hr.le
  have h2 := hr.capLe
  simp only [Sl.cutOk, decide_eq_true_eq] at hok
  unfold Sl.cut
  by_cases hs : s.slack = none
  · rw [if_pos hs]
    have hc := hr.exact hs
    refine ⟨rfl, by simp; omega, by simp; omega, fun _ => by simp; omega, by simp, fun _ => ?_, by simp⟩
    have := hr.at_ (by rw [hs]; simp)
    simp only
    by_cases hcl : cap = l
    · rw [if_pos hcl, if_pos (by omega)]; exact this
    · rw [if_neg hcl, if_neg (by omega)]; exact this.add _
  · rw [if_neg hs]
    split
    · rename_i hc
      refine ⟨rfl, by simp; omega, by simp; omega, fun hn => absurd hn hs, fun h0 => by have := hr.none0 h0; simp; omega, fun h0 => ?_, fun sz hsz h0 b base dsz hb => ?_⟩
      · have := hr.at_ h0
        simp only
        rcases hc.2 with hc2 | hc2
        · rw [if_neg (by omega)]; exact this.add _
        · subst hc2
          split
          · simpa using this
          · exact this.add _
      · have e : sz = size := by
          have := hc.1; rw [this] at hsz; simpa using hsz.symm
        subst e
        have := hr.room sz hc.1 h0 b base dsz hb
        simp only
        have hle : l * sz ≤ cap * sz := Nat.mul_le_mul_right _ (by omega)
        rw [Nat.sub_mul]; omega
    · rename_i hc
      have hcap : s.cap ≤ l := by
        rcases hok with hok | hok | hok
        · exact absurd hok hs
        · by_cases h3 : l < s.cap
          · exact absurd ⟨hok, .inl h3⟩ hc
          · omega
        · have := hr.none0 hok; omega
      refine ⟨by simp; omega, by simp, by simp, fun hn => by simp at hn, by simp, fun hn => absurd rfl hn, fun sz hsz h0 => ?_⟩
      simp at hsz; exact absurd hsz.symm h0

theorem SlRel.exactly {i o len cap : Nat} {a : Addr} (ha : ARel σ i o a) (h : len ≤ cap) : SlRel σ ⟨i, o, len, cap, none⟩ a len cap :=
  ⟨rfl, h, Nat.le_refl _, fun _ => rfl, by simp, fun _ => ha, by simp⟩

theorem opt_rel {env : List AV} {a : Act} (he : EnvRel σ env a) (x : Option Operand) : (∀ v, x.map (ev env) = some v → ∃ u, x.map a.eval = some u ∧ VRel σ v u) ∧ (x.map (ev env) = none → x.map a.eval = none) := by
  cases x with
  | none => simp
  | some x => simp; exact ev_rel he x

/-- The same, by the slice. -/
def aSlice0 (P : Program) (t : TypeId) (x : AV) (low high mx : Option AV) (K : AV → Prop) : Prop :=
  match P.underlying t, x with
  | some .string, .str s =>
    match mx with
    | some _ => Res.fail
    | none => aBounds s.length s.length low high fun l h => K (.str ((s.drop l).take (h - l)))
  | some (.slice e), .slice none =>
    guardR (okT P e) <|
    match mx with
    | some m => guardR high.isSome <| chkNum m fun m => if m = 0 then aBounds 0 0 low high fun _ _ => K (.slice none) else Res.fail
    | none => aBounds 0 0 low high fun _ _ => K (.slice none)
  | some (.slice e), .slice (some s) =>
    guardR (okT P e) <|
    match mx with
    | some m => guardR (high.isSome && decide (s.slack ≠ some 0)) <| chkNum m fun m => if 0 ≤ m ∧ m ≤ s.cap then
        aBounds s.len m.toNat low high fun l h => K (.slice (some ⟨s.id, if m.toNat = l then s.off else s.off + l * P.cellsOf e, h - l, m.toNat - l, none⟩)) else Res.fail
    | none => aBounds s.len s.len low high fun l h => guardR (s.cutOk (P.cellsOf e)) <| K (.slice (some (s.cut (P.cellsOf e) l h)))
  | some (.pointer arr), .ptr (some a) =>
    match mx, P.underlying arr with
    | none, some (.array n e) => guardR (okT P e) <| aBounds n n low high fun l h => K (.slice (some ⟨a.1, if n = l then a.2 else a.2 + l * P.cellsOf e, h - l, n - l, none⟩))
    | _, _ => Res.fail
  | some (.array n e), .ptr (some a) =>
    match mx with
    | none => guardR (okT P e) <| aBounds n n low high fun l h => K (.slice (some ⟨a.1, if n = l then a.2 else a.2 + l * P.cellsOf e, h - l, n - l, none⟩))
    | _ => Res.fail
  | _, _ => Res.fail

theorem aSlice_eq0 {P : Program} {t : TypeId} {x : AV} {low high mx : Option AV} {K : AV → Prop} : aSlice P t x low high mx K = aSlice0 P t x low high mx K := by
  unfold aSlice aSlice0
  cases P.underlying t with
  | none => rfl
  | some d =>
    cases x with
    | slice x => cases d <;> cases x <;> cases mx <;> rfl
    | ptr x => cases d <;> cases x <;> cases mx <;> rfl
    | str s => cases d <;> rfl
    | _ => cases d <;> rfl

theorem aSlice_sound {t : TypeId} {x : AV} {u : Value} {low high mx : Option AV} {low' high' mx' : Option Value} {K : AV → Prop} (h : aSlice P t x low high mx K) (hx : VRel σ x u)
    (hl : (∀ v, low = some v → ∃ u, low' = some u ∧ VRel σ v u) ∧ (low = none → low' = none)) (hh : (∀ v, high = some v → ∃ u, high' = some u ∧ VRel σ v u) ∧ (high = none → high' = none))
    (hm : (∀ v, mx = some v → ∃ u, mx' = some u ∧ VRel σ v u) ∧ (mx = none → mx' = none)) : Ans σ P w (Instr.sliceAt t u low' high' mx') K := by
  rw [aSlice_eq0] at h
  unfold aSlice0 at h
  split at h
  · rename_i s ht
    split at h
    · exact h.elim
    · obtain rfl := hm.2 rfl
      obtain ⟨b, rfl, hb⟩ := hx.of_str
      have hsz : b.size = s.length := by rw [← hb, Array.length_toList]; rfl
      obtain ⟨l, m, h, h1, h2, _, hrun⟩ := aBounds_sound (P := P) (w := w) (sl := false) (Nat.le_refl _) (Nat.le_refl _) hl.1 hl.2 hh.1 hh.2 h
      refine .mk h (.str _ (b.extract l m) ?_) ?_
      · rw [ByteArray.data_extract, Array.toList_extract, List.extract_eq_take_drop, hb]
      · simp only [Instr.sliceAt, Sem.run_bind, run_underlying ht, Result.andThen_ok, Instr.slice]
        simp [hsz, hrun]
  · rename_i e ht
    simp only [guardR_iff] at h
    obtain ⟨hok, h⟩ := h
    obtain rfl := hx.of_slice0
    have hso := run_sizeOf_ok (P := P) (w := w) (okT_iff.1 hok).1
    split at h
    · rename_i mv
      simp only [guardR_iff, chkNum_iff, ite_fail] at h
      obtain ⟨hhs, k, m, rfl, rfl, h⟩ := h
      obtain ⟨u, rfl, hu⟩ := hm.1 _ rfl
      obtain rfl := hu.of_int
      have hhs : high ≠ none := by rintro rfl; simp at hhs
      obtain ⟨l, r, h, h1, h2, hrun⟩ := aBounds3_sound (P := P) (w := w) (sl := true) (k := k) (cap' := 0) (m := 0) (by omega) (by omega) hhs hl.1 hl.2 hh.1 h
      refine .mk h .slice0 ?_
      simp only [Instr.sliceAt, Sem.run_bind, run_underlying ht, Result.andThen_ok, Instr.slice, hrun, hso, Sem.run_pure]
      have hl0 : l = 0 := by simp at h2; omega
      have hr0 : r = 0 := by simp at h2; omega
      subst hl0 hr0; simp
    · obtain rfl := hm.2 rfl
      obtain ⟨l, m, h, h1, h2, _, hrun⟩ := aBounds_sound (P := P) (w := w) (sl := true) (Nat.le_refl _) (Nat.le_refl _) hl.1 hl.2 hh.1 hh.2 h
      refine .mk h .slice0 ?_
      simp only [Instr.sliceAt, Sem.run_bind, run_underlying ht, Result.andThen_ok, Instr.slice, hrun, hso, Sem.run_pure]
      have hl0 : l = 0 := by omega
      have hm0 : m = 0 := by omega
      subst hl0 hm0; simp
  · rename_i e s ht
    simp only [guardR_iff] at h
    obtain ⟨hok, h⟩ := h
    obtain ⟨a, len, cap, rfl, hs⟩ := hx.of_slice
    have hso := run_sizeOf_ok (P := P) (w := w) (okT_iff.1 hok).1
    have h1 := hs.le
    have h2 := hs.capLe
    have h3 := hs.len
    split at h
    · rename_i mv
      simp only [guardR_iff, chkNum_iff, ite_fail, Bool.and_eq_true, decide_eq_true_eq] at h
      obtain ⟨⟨hhs, hsl⟩, k, m, rfl, ⟨hm0, hm1⟩, h⟩ := h
      obtain ⟨u, rfl, hu⟩ := hm.1 _ rfl
      obtain rfl := hu.of_int
      have hhs : high ≠ none := by rintro rfl; simp at hhs
      obtain ⟨l, r, h, h4, h5, hrun⟩ := aBounds3_sound (P := P) (w := w) (sl := true) (k := k) (cap' := cap) (m := m) hm0 (by omega) hhs hl.1 hl.2 hh.1 h
      subst h3
      refine .mk h (.slice _ (if m.toNat = l then a else a.add (l * P.cellsOf e)) (r - l) (m.toNat - l) (SlRel.exactly ?_ (by omega))) ?_
      · have := hs.at_ hsl
        split
        · exact this
        · exact this.add _
      · simp only [Instr.sliceAt, Sem.run_bind, run_underlying ht, Result.andThen_ok, Instr.slice, hrun, hso, Sem.run_pure]
        by_cases hml : m.toNat = l <;> simp [hml]
    · obtain rfl := hm.2 rfl
      obtain ⟨l, r, h, h4, h5, _, hrun⟩ := aBounds_sound (P := P) (w := w) (sl := true) (cap' := cap) (Nat.le_refl _) (by omega) hl.1 hl.2 hh.1 hh.2 h
      obtain ⟨hcut, h⟩ := h
      subst h3
      refine .mk h (.slice _ _ _ _ (hs.cut hcut h4 h5)) ?_
      simp only [Instr.sliceAt, Sem.run_bind, run_underlying ht, Result.andThen_ok, Instr.slice, hrun, hso, Sem.run_pure]
      by_cases hml : cap = l <;> simp [hml]
  · rename_i arr a ht
    split at h
    · rename_i n e hta
      simp only [guardR_iff] at h
      obtain ⟨hok, h⟩ := h
      obtain ⟨a', rfl, ha⟩ := hx.of_ptr
      obtain rfl := hm.2 rfl
      have hso := run_sizeOf_ok (P := P) (w := w) (okT_iff.1 hok).1
      obtain ⟨l, r, h, h4, h5, _, hrun⟩ := aBounds_sound (P := P) (w := w) (sl := false) (Nat.le_refl _) (Nat.le_refl _) hl.1 hl.2 hh.1 hh.2 h
      refine .mk h (.slice _ (if n = l then a' else a'.add (l * P.cellsOf e)) (r - l) (n - l) (SlRel.exactly ?_ (by omega))) ?_
      · split
        · exact ha
        · exact ha.add _
      · simp only [Instr.sliceAt, Sem.run_bind, run_underlying ht, Result.andThen_ok, Instr.slice, asAddr, Sem.run_pure, run_underlying hta, hrun, hso]
    · exact h.elim
  · rename_i n e a ht
    split at h
    · simp only [guardR_iff] at h
      obtain ⟨hok, h⟩ := h
      obtain ⟨a', rfl, ha⟩ := hx.of_ptr
      obtain rfl := hm.2 rfl
      have hso := run_sizeOf_ok (P := P) (w := w) (okT_iff.1 hok).1
      obtain ⟨l, r, h, h4, h5, _, hrun⟩ := aBounds_sound (P := P) (w := w) (sl := false) (Nat.le_refl _) (Nat.le_refl _) hl.1 hl.2 hh.1 hh.2 h
      refine .mk h (.slice _ (if n = l then a' else a'.add (l * P.cellsOf e)) (r - l) (n - l) (SlRel.exactly ?_ (by omega))) ?_
      · split
        · exact ha
        · exact ha.add _
      · simp only [Instr.sliceAt, Sem.run_bind, run_underlying ht, Result.andThen_ok, Instr.sureAddr, Sem.run_pure, hrun, hso]
    · exact h.elim
  · exact h.elim

/-! ## Literals -/

theorem foldl_set_eq : ∀ (vs : List Value) (cs : Array Value) (off j : Nat), off + j + vs.length ≤ cs.size →
    ((vs.zipIdx j).foldl (fun cs (x : Value × Nat) => cs.setIfInBounds (off + x.2) x.1) cs).toList = cs.toList.take (off + j) ++ vs ++ cs.toList.drop (off + j + vs.length)
  | [], cs, off, j, _ => by simp
  | v :: vs, cs, off, j, h => by
    simp only [List.length_cons] at h
    rw [List.zipIdx_cons, List.foldl_cons, foldl_set_eq vs _ off (j + 1) (by simp; omega)]
    simp only [Array.toList_setIfInBounds, List.length_cons]
    apply List.ext_getElem?
    intro i
    have hc : off + j < cs.toList.length := by simp; omega
    have e1 : (cs.toList.set (off + j) v).take (off + (j + 1)) = cs.toList.take (off + j) ++ [v] := by
      rw [show off + (j + 1) = (off + j) + 1 by omega, List.take_add_one, List.take_set_of_le (by omega)]
      simp
      exact List.getElem?_set_self hc
    rw [e1, List.drop_set_of_lt (by omega), show off + (j + 1) + vs.length = off + j + (vs.length + 1) by omega]
    simp

theorem aFill_sound {place : Nat → Option (Nat × Nat)} : ∀ (parts : List (Nat × AV)) (parts' : List (Nat × Value)) (cs : List AV) (ds : Array Value) (r : List AV),
    All2 (fun p p' => p.1 = p'.1 ∧ VRel σ p.2 p'.2) parts parts' → VRels σ cs ds.toList → aFill place cs parts = some r → ∃ r', Instr.fill place ds parts' = some r' ∧ VRels σ r r'.toList
  | [], [], cs, ds, r, _, hc, h => by simp [aFill] at h; subst h; exact ⟨ds, rfl, hc⟩
  | (i, v) :: parts, (i', v') :: parts', cs, ds, r, hp, hc, h => by
    obtain ⟨⟨rfl, hv⟩, hp⟩ := hp
    simp only [aFill] at h
    split at h
    · cases h
    · cases h
    · rename_i va vb xo off size hnb hpl
      have hv : VRel σ va v' := hv
      show ∃ r', Instr.fill place ds ((i, v') :: parts') = some r' ∧ VRels σ r r'.toList
      split at h
      · cases h
      · rename_i hsz
        simp only [ne_eq, not_or, Decidable.not_not, gt_iff_lt, Nat.not_lt] at hsz
        obtain ⟨hsz0, hsz3⟩ := hsz
        have hvc := cellsOf_rel hv (by simpa using hnb)
        have hl := hvc.length
        have hlc := hc.length
        simp only [Array.length_toList] at hl hlc
        have hsz1 : v'.cells.size = size := by omega
        have hsz2 : off + v'.cells.size ≤ ds.size := by rw [← hl, ← hlc]; exact hsz3
        obtain ⟨r', h1, h2⟩ := aFill_sound parts parts' _ (v'.cells.zipIdx.foldl (fun cs (x : Value × Nat) => cs.setIfInBounds (off + x.2) x.1) ds) r hp (by
          have := foldl_set_eq v'.cells.toList ds off 0 (by simpa using hsz2)
          rw [← Array.foldl_toList, Array.toList_zipIdx, this]
          simp only [Nat.add_zero, Array.length_toList]
          rw [hl]
          exact ((hc.take off).append hvc).append (hc.drop _)) h
        refine ⟨r', ?_, h2⟩
        simp only [Instr.fill, hpl]
        rw [if_neg (by simp only [Bool.or_eq_true, decide_eq_true_eq]; omega)]
        exact h1
  | [], _ :: _, _, _, _, hp, _, _ => hp.elim
  | _ :: _, [], _, _, _, hp, _, _ => hp.elim

theorem mapM_sizes (l : List Field) (h : ∀ f ∈ l, ∃ i, P.info? f.type = some i) :
    (l.mapM fun f => (do pure (f.offset, ← sizeOf f.type) : Sem (Nat × Nat))).run P w = .ok (l.map fun f => (f.offset, P.cellsOf f.type)) w := by
  induction l with
  | nil => simp
  | cons f l ih =>
    have h1 := run_sizeOf_ok (P := P) (w := w) (h f (by simp))
    have h2 := ih fun g hg => h g (by simp [hg])
    simp only [List.mapM_cons, Sem.run_bind, h1, Result.andThen_ok, Sem.run_pure, h2, List.map_cons]

theorem aBuild_sound {t : TypeId} {parts : List (Nat × AV)} {parts' : Array (Nat × Value)} {K : AV → Prop} (h : aBuild P t parts K) (hp : All2 (fun p p' => p.1 = p'.1 ∧ VRel σ p.2 p'.2) parts parts'.toList) :
    Ans σ P w (Instr.build t parts') K := by
  unfold aBuild at h
  obtain ⟨i, z, hi, hz, h⟩ := zeroOf_iff.1 h
  have hrz := run_zero_ok (P := P) (w := w) hi hz
  split at h
  · rename_i fs ht
    simp only [guardR_iff, ob_iff, List.all_eq_true] at h
    obtain ⟨hok, cs, hf, h⟩ := h
    obtain ⟨r', h1, h2⟩ := aFill_sound parts parts'.toList _ z.cells cs hp (ofCells_rel _) hf
    refine .mk h (VRel.agg_iff.2 ⟨r', rfl, h2⟩) ?_
    have hm := mapM_sizes (P := P) (w := w) fs.toList fun f hf => (okT_iff.1 (hok f hf)).1
    have hm' : (fs.mapM fun f => (do pure (f.offset, ← sizeOf f.type) : Sem (Nat × Nat))).run P w = .ok (fs.map fun f => (f.offset, P.cellsOf f.type)) w := by
      rw [Array.mapM_eq_mapM_toList, Sem.run_map, hm, Result.andThen_ok, ← Array.toList_map, Array.toArray_toList]
    have hpl : (fun (i : Nat) => (fs.map fun f => (f.offset, P.cellsOf f.type))[i]?) = fun (i : Nat) => fs[i]?.map fun (f : Field) => (f.offset, P.cellsOf f.type) := by
      funext i; simp
    simp only [Instr.build, Sem.run_bind, hrz, Result.andThen_ok, run_underlying ht, hm', hpl, h1, Sem.run_pure]
  · rename_i n e ht
    simp only [guardR_iff, ob_iff] at h
    obtain ⟨hok, cs, hf, h⟩ := h
    obtain ⟨r', h1, h2⟩ := aFill_sound parts parts'.toList _ z.cells cs hp (ofCells_rel _) hf
    refine .mk h (VRel.agg_iff.2 ⟨r', rfl, h2⟩) ?_
    simp only [Instr.build, Sem.run_bind, hrz, Result.andThen_ok, run_underlying ht, run_sizeOf_ok (P := P) (w := w) (okT_iff.1 hok).1, h1, Sem.run_pure]
  · exact h.elim

theorem evs_rel {env : List AV} {a : Act} (he : EnvRel σ env a) (l : List Operand) : VRels σ (l.map (ev env)) (l.map a.eval) := All2.maps _ _ _ fun x _ => ev_rel he x

theorem evs_rel_arr {env : List AV} {a : Act} (he : EnvRel σ env a) (l : Array Operand) : VRels σ (l.toList.map (ev env)) (l.map a.eval).toList := by
  rw [Array.toList_map]; exact evs_rel he _

theorem parts_rel {env : List AV} {a : Act} (he : EnvRel σ env a) (l : Array (Nat × Operand)) : All2 (fun p p' => p.1 = p'.1 ∧ VRel σ p.2 p'.2) (l.toList.map fun p => (p.1, ev env p.2)) (l.map fun (i, x) => (i, a.eval x)).toList := by
  rw [Array.toList_map]
  exact All2.maps _ _ _ fun x _ => ⟨rfl, ev_rel he _⟩

/-- An operation that reads no memory. -/
theorem pure_sound {o : Oper} {env : List AV} {a : Act} {K : AV → Prop} (he : EnvRel σ env a) (h : aPure P o env K) : ∃ v u, K v ∧ VRel σ v u ∧ (execOp a.eval o).run P w = .ok (.value u) w := by
  have fin : ∀ s : Sem Value, Ans σ P w s K → execOp a.eval o = (do pure (.value (← s))) → ∃ v u, K v ∧ VRel σ v u ∧ (execOp a.eval o).run P w = .ok (.value u) w := by
    rintro s ⟨v, u, hK, hr, hrun⟩ he
    exact ⟨v, u, hK, hr, by rw [he]; simp [hrun]⟩
  obtain ⟨dst, op, type, pos, after, guard⟩ := o
  unfold aPure at h
  cases op <;> simp only at h <;> try exact h.elim
  case move x => exact ⟨_, _, h, ev_rel he x, rfl⟩
  case assign x => exact ⟨_, _, h, ev_rel he x, rfl⟩
  case pick c x y =>
    obtain ⟨b, hb, h⟩ := chkBool_iff.1 h
    have hc := ev_rel he c
    rw [hb] at hc
    have hc' := hc.of_bool
    cases b
    · exact ⟨_, _, h, ev_rel he y, by simp [execOp, hc', asBool]⟩
    · exact ⟨_, _, h, ev_rel he x, by simp [execOp, hc', asBool]⟩
  case nilCheck x =>
    have hx := ev_rel he x
    split at h
    · rename_i p hp
      rw [hp] at hx
      obtain ⟨q, rfl, h⟩ := ob_iff.1 h
      obtain ⟨b, hb, hab⟩ := hx.of_ptr
      exact ⟨_, _, h, .ptr _ _ _ hab, by simp [execOp, hb]⟩
    · rename_i f as cs hp
      rw [hp] at hx
      have hx2 := hx
      obtain ⟨bs, ds, hb, _⟩ := VRel.fn_iff.1 hx
      rw [hb] at hx2
      exact ⟨_, _, h, hx2, by simp [execOp, hb]⟩
    · exact h.elim
  case fieldAddr s x f =>
    have hx := ev_rel he x
    rw [chkPtr_ob] at h
    split at h
    · rename_i p hp
      rw [hp] at hx
      obtain ⟨b, hb, hab⟩ := hx.of_ptr
      split at h
      · rename_i fs ht
        simp only [ob_iff, ite_fail'] at h
        obtain ⟨fd, hfd, hsz, h⟩ := h
        refine ⟨_, .pointer (some (b.add fd.offset)), h, .ptr _ _ _ (hab.add _), ?_⟩
        have hi : ∃ i, P.info? fd.type = some i := by
          cases hi : P.info? fd.type with
          | none => simp [Program.cellsOf, hi] at hsz
          | some i => exact ⟨i, rfl⟩
        simp [execOp, hb, Instr.fieldAt, run_underlying ht, hfd, Instr.sureAddr, fieldPlace, run_sizeOf_ok hi, hsz]
      · exact h.elim
    · exact h.elim
  case indexAddr t x i =>
    obtain ⟨k, n, hi, h⟩ := chkNum_iff.1 h
    have hi' := ev_rel he i
    rw [hi] at hi'
    have hi2 := hi'.of_int
    have hx := ev_rel he x
    split at h
    · rename_i len e ht
      obtain ⟨q, hp, h⟩ := chkPtr_iff.1 h
      obtain ⟨p, rfl, h⟩ := ob_iff.1 h
      rw [hp] at hx
      obtain ⟨b, hb, hab⟩ := hx.of_ptr
      simp only [guardR_iff, ite_fail] at h
      obtain ⟨hok, hn, h⟩ := h
      refine ⟨_, .pointer (some (b.add (n.toNat * P.cellsOf e))), h, .ptr _ _ _ (hab.add _), ?_⟩
      simp [execOp, hb, hi2, Instr.indexAt, asIntOf, run_underlying ht, Instr.sureAddr, hn, run_sizeOf_ok (okT_iff.1 hok).1]
    · rename_i e ht
      obtain ⟨q, hp, h⟩ := chkSl_iff.1 h
      obtain ⟨s, rfl, h⟩ := ob_iff.1 h
      rw [hp] at hx
      obtain ⟨b, len, cap, hb, hs⟩ := hx.of_slice
      simp only [guardR_iff, ite_fail] at h
      obtain ⟨hok, hn, h⟩ := h
      have hlen := hs.len
      have hne : s.slack ≠ some 0 := fun h0 => by
        have := hs.none0 h0; have := hs.le; omega
      refine ⟨_, .pointer (some (b.add (n.toNat * P.cellsOf e))), h, .ptr _ _ _ ((hs.at_ hne).add _), ?_⟩
      subst hlen
      simp [execOp, hb, hi2, Instr.indexAt, asIntOf, run_underlying ht, hn, run_sizeOf_ok (okT_iff.1 hok).1]
    · exact h.elim
  case index t x i =>
    obtain ⟨k, n, hi, h⟩ := chkNum_iff.1 h
    have hi' := ev_rel he i
    rw [hi] at hi'
    have hi2 := hi'.of_int
    have hx := ev_rel he x
    split at h
    · rename_i s ht hp
      rw [hp] at hx
      obtain ⟨b, hb, hbs⟩ := hx.of_str
      simp only [ite_fail, ob_iff] at h
      obtain ⟨hn, c, hc, h⟩ := h
      refine ⟨_, _, h, .int _ _, ?_⟩
      have hc' : b[n.toNat]? = some c := by
        rw [← hbs] at hc
        rw [Array.getElem?_toList] at hc
        exact hc
      simp [execOp, hb, hi2, Instr.index, asIntOf, run_underlying ht, hn, hc']
    · rename_i len e cs ht hp
      rw [hp] at hx
      obtain ⟨bs, hb, hbs⟩ := VRel.agg_iff.1 hx
      simp only [guardR_iff, ite_fail] at h
      obtain ⟨hok, hn, h⟩ := h
      obtain ⟨v, u, h, hr, hrun⟩ := partOf_sound (P := P) (w := w) hbs hok h
      exact ⟨v, u, h, hr, by simp [execOp, hb, hi2, Instr.index, asIntOf, run_underlying ht, hn, run_sizeOf_ok (okT_iff.1 hok).1, hrun]⟩
    · exact h.elim
  case field t x f =>
    have hx := ev_rel he x
    split at h
    · rename_i fs cs ht hp
      rw [hp] at hx
      obtain ⟨bs, hb, hbs⟩ := VRel.agg_iff.1 hx
      simp only [ob_iff, guardR_iff] at h
      obtain ⟨fd, hfd, hok, h⟩ := h
      obtain ⟨v, u, h, hr, hrun⟩ := partOf_sound (P := P) (w := w) hbs hok h
      exact ⟨v, u, h, hr, by simp [execOp, hb, Instr.field, run_underlying ht, hfd, asAgg, hrun]⟩
    · exact h.elim
  case binOp op t x y yt => exact fin _ (aBin_sound (ox := x) (oy := y) h (ev_rel he x) (ev_rel he y)) rfl
  case unOp op t x => exact fin _ (aUn_sound h (ev_rel he x)) rfl
  case convert src dst x =>
    have hx := ev_rel he x
    split at h
    · rename_i d k k' n hs hd hp
      rw [hp] at hx
      have hx' := hx.of_int
      exact ⟨_, _, h, .int _ _, by simp [execOp, hx', convert, run_underlying hs, run_underlying hd, Conv.intToInt]⟩
    · rename_i d s hs hd hp
      rw [hp] at hx
      obtain ⟨b, hb, hbs⟩ := hx.of_str
      exact ⟨_, _, h, .str _ _ hbs, by simp [execOp, hb, convert, run_underlying hs, run_underlying hd]⟩
    · exact h.elim
  case makeFunc fn first captured =>
    split at h
    · exact ⟨_, _, h, VRel.fn_iff.2 ⟨_, _, rfl, evs_rel_arr he _, evs_rel_arr he _⟩, rfl⟩
    · exact h.elim
  case extract t i =>
    have hx := ev_rel he t
    split at h
    · rename_i vs hp
      rw [hp] at hx
      obtain ⟨bs, hb, hbs⟩ := VRel.tup_iff.1 hx
      obtain ⟨v, hv, h⟩ := ob_iff.1 h
      obtain ⟨u, hu, hr⟩ := hbs.get i v hv
      rw [Array.getElem?_toList] at hu
      exact ⟨v, u, chkT_imp h, hr, by simp [execOp, hb, Instr.extract, hu]⟩
    · exact h.elim
  case build t parts => exact fin _ (aBuild_sound h (parts_rel he parts)) rfl
  case slice t x lo hi mx => exact fin _ (aSlice_sound h (ev_rel he x) (opt_rel he lo) (opt_rel he hi) (opt_rel he mx)) rfl
  case call c =>
    obtain ⟨callee, args, argTypes⟩ := c
    cases callee <;> simp only at h <;> try exact h.elim
    rename_i b
    cases b <;> simp only at h <;> try exact h.elim
    case len =>
      split at h
      · rename_i t x hts hxs
        have hx := ev_rel he x
        obtain rfl : argTypes = #[t] := Array.toList_inj.1 hts
        obtain rfl : args = #[x] := Array.toList_inj.1 hxs
        split at h
        · rename_i s ht hp
          rw [hp] at hx
          obtain ⟨b, hb, hbs⟩ := hx.of_str
          have hsz : b.size = s.length := by rw [← hbs, Array.length_toList]; rfl
          exact ⟨_, _, h, .int _ _, by simp [execOp, resolve, invoke, builtin, Builtin.len_, run_underlying ht, hb, goInt, hsz]⟩
        · rename_i e s ht hp
          rw [hp] at hx
          cases s with
          | none =>
            have hb := hx.of_slice0
            exact ⟨_, _, h, .int _ _, by simp [execOp, resolve, invoke, builtin, Builtin.len_, run_underlying ht, hb, goInt, lenO]⟩
          | some s =>
            obtain ⟨b, len, cap, hb, hs⟩ := hx.of_slice
            have hl := hs.len
            subst hl
            exact ⟨_, _, h, .int _ _, by simp [execOp, resolve, invoke, builtin, Builtin.len_, run_underlying ht, hb, goInt, lenO]⟩
        · rename_i n e ht
          exact ⟨_, _, h, .int _ _, by simp [execOp, resolve, invoke, builtin, Builtin.len_, run_underlying ht, goInt]⟩
        · exact h.elim
      · exact h.elim
    case min =>
      obtain ⟨v, u, hK, hr, hrun⟩ := aMinMax_sound (P := P) (w := w) h (evs_rel he args.toList) argTypes type
      refine ⟨v, u, hK, hr, ?_⟩
      simp only [Bool.false_eq_true, if_false] at hrun
      have : (args.toList.map a.eval).toArray = args.map a.eval := by rw [← Array.toList_map, Array.toArray_toList]
      rw [this] at hrun
      simp [execOp, resolve, invoke, builtin, hrun]
    case max =>
      obtain ⟨v, u, hK, hr, hrun⟩ := aMinMax_sound (P := P) (w := w) h (evs_rel he args.toList) argTypes type
      refine ⟨v, u, hK, hr, ?_⟩
      simp only [if_true] at hrun
      have : (args.toList.map a.eval).toArray = args.map a.eval := by rw [← Array.toList_map, Array.toArray_toList]
      rw [this] at hrun
      simp [execOp, resolve, invoke, builtin, hrun]

end
end Go.Abs
