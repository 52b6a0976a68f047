/- What the abstract machine says of operations that make a block holds of the model's. -/
import Derived.Test.YtdpecfeofcibhaaA8
import Derived.IntWalk
import Derived.Lib.ConvBytes
namespace Go.Abs
section
variable {σ : Sig} {P : Program} {w : World} {h : AH}

/-- A block has been made, and the value that names it. -/
structure Made (σ : Sig) (w w' : World) (B : ABlk) (f : Nat → AV) (u : Value) : Prop where
  os : w'.os = w.os
  tape : w'.tape = w.tape
  output : w'.output = w.output
  size : w.heap.size < w'.heap.size
  other : ∀ k, k < w.heap.size → w'.heap[k]? = w.heap[k]?
  made : ∃ dsz, (∀ σ', SigLe σ σ' → BRel σ' w' (.live w.heap.size 0 dsz) B) ∧ ∀ σ' : Sig, ∀ i : Nat, σ'[i]? = some (.live w.heap.size 0 dsz) → VRel σ' (f i) u

theorem Made.push (H : HRel σ h w) {w' : World} {B : ABlk} {f : Nat → AV} {u : Value} (m : Made σ w w' B f u) : ∃ σ', Step σ h w σ' (h ++ [B]) w' ∧ VRel σ' (f h.length) u := by
  obtain ⟨dsz, h1, h2⟩ := m.made
  exact ⟨_, Step.new H m.os m.tape m.output m.size m.other (h1 _ (SigLe.append _ _)), h2 _ _ (by rw [← H.len]; simp)⟩

theorem Made.born (H : HRel σ h w) {w' : World} {B : ABlk} {f : Nat → AV} {u : Value} (m : Made σ w w' B f u) {i : Nat} (hi : h[i]? = some .unborn) : ∃ σ', Step σ h w σ' (h.set i B) w' ∧ VRel σ' (f i) u := by
  obtain ⟨dsz, h1, h2⟩ := m.made
  obtain ⟨e0, he0, hb0⟩ := H.lookup hi
  have hun : e0 = .unborn := by cases e0 <;> simp_all [BRel]
  subst hun
  have hlt : i < σ.length := (List.getElem?_eq_some_iff.1 he0).1
  exact ⟨_, Step.birth H hi m.os m.tape m.output m.size m.other (h1 _ (SigLe.set he0 trivial)), h2 _ _ (by simp [hlt])⟩

theorem Made.row {T : TypeId} {cs : List AV} {us : Array Value} {f : Nat → AV} {u : Value} (hr : VRels σ cs (us.toList.take cs.length)) (hl : cs.length ≤ us.size)
    (hu : ∀ σ' : Sig, ∀ i : Nat, σ'[i]? = some (.live w.heap.size 0 us.size) → VRel σ' (f i) u) : Made σ w (w.alloc (.cells us T)) (.cells cs false) f u :=
  ⟨rfl, rfl, rfl, by simp, fun k hk => heap_alloc_old w _ k hk, us.size, fun σ' hle => ⟨us, T, (0, 0), heap_alloc_new w _, rfl, by omega, fun _ k _ hk => by omega, by rw [List.drop_zero]; exact hr.mono hle⟩, hu⟩

theorem Made.rowAll {T : TypeId} {cs : List AV} {us : Array Value} {f : Nat → AV} {u : Value} (hr : VRels σ cs us.toList)
    (hu : ∀ σ' : Sig, ∀ i : Nat, σ'[i]? = some (.live w.heap.size 0 us.size) → VRel σ' (f i) u) : Made σ w (w.alloc (.cells us T)) (.cells cs false) f u := by
  have hl := hr.length
  simp only [Array.length_toList] at hl
  refine Made.row ?_ (by omega) hu
  rw [List.take_of_length_le (by simp; omega)]; exact hr

def repZ {α : Type} (z : List α) : Nat → List α
  | 0 => []
  | n + 1 => z ++ repZ z n

theorem zeroRep {α : Type} [Inhabited α] (zs : Array α) : ∀ n : Nat, ((Array.range (n * zs.size)).map (fun i => zs[i % zs.size]!)).toList = repZ zs.toList n
  | 0 => by simp [repZ]
  | n + 1 => by
    have ih := zeroRep zs n
    simp only [Array.toList_map, Array.toList_range] at ih ⊢
    rw [show (n + 1) * zs.size = zs.size + n * zs.size by rw [Nat.add_mul]; omega, List.range_add, List.map_append, List.map_map]
    show _ = zs.toList ++ repZ zs.toList n
    rw [← ih]
    congr 1
    · apply List.ext_getElem?
      intro i
      simp only [List.getElem?_map, Array.getElem?_toList]
      by_cases hi : i < zs.size
      · simp [hi, Nat.mod_eq_of_lt hi]
      · simp [hi]
    · apply List.map_congr_left
      intro a _
      simp

theorem repZero_rel (zs : List Value) : ∀ n, VRels σ (repZero (zs.map ofCell) n) (repZ zs n)
  | 0 => trivial
  | n + 1 => (ofCells_rel zs).append (repZero_rel zs n)

theorem repZ_length {α : Type} (z : List α) : ∀ n, (repZ z n).length = n * z.length
  | 0 => by simp [repZ]
  | n + 1 => by simp [repZ, repZ_length z n, Nat.add_mul]; omega

/-- The zero cells of a new row, as the model lays them. -/
theorem zeros_rel (zs : Array Value) (n : Nat) : VRels σ (repZero (zs.toList.map ofCell) n) ((Array.range (n * zs.size)).map (fun i => (if n * zs.size = 0 then #[] else zs)[i % (if n * zs.size = 0 then #[] else zs).size]!)).toList := by
  by_cases h0 : n * zs.size = 0
  · have : repZero (zs.toList.map ofCell) n = [] := by
      rcases Nat.mul_eq_zero.1 h0 with h | h
      · subst h; rfl
      · have : zs = #[] := by simpa using h
        subst this
        clear h0 h
        induction n with
        | zero => rfl
        | succ n ih => simpa [repZero] using ih
    rw [this]
    simp [h0, All2]
  · simp only [if_neg h0]
    rw [zeroRep]
    exact repZero_rel _ _

theorem SlRel.fresh {σ' : Sig} {i n c b : Nat} {dsz : Nat} (hi : σ'[i]? = some (.live b 0 dsz)) (h : n ≤ c) : VRel σ' (.slice (some ⟨i, 0, n, c, none⟩)) (.slice (some ⟨b, 0, none⟩) n c) :=
  .slice _ _ _ _ (SlRel.exactly (by simp [ARel, hi]) h)

theorem ARel.fresh {σ' : Sig} {i b dsz : Nat} (hi : σ'[i]? = some (.live b 0 dsz)) : VRel σ' (.ptr (some (i, 0))) (.pointer (some ⟨b, 0, none⟩)) := .ptr _ _ _ (by simp [ARel, hi])

theorem chkZ_nonbot {z : Value} {v : AV} {K : AV → Prop} (h : chkZ z v K) : v ≠ .bot := by
  rintro rfl
  unfold chkZ at h
  split at h
  · exact h.elim
  · unfold chkOne at h
    split at h
    · exact h.elim
    · have := chkCell_scal h; simp [AV.scal] at this

theorem chkT_nonbot {t : TypeId} {v : AV} {K : AV → Prop} (h : chkT P t v K) : v ≠ .bot := by
  obtain ⟨i, z, _, _, h⟩ := zeroOf_iff.1 h
  exact chkZ_nonbot h

/-- An operation that makes a block. -/
theorem alloc_sound {o : Oper} {env : List AV} {a : Act} {K : ABlk → (Nat → AV) → Prop} (he : EnvRel σ env a) (hh : aAlloc P o env K) :
    ∃ B f u w', K B f ∧ Made σ w w' B f u ∧ (execOp a.eval o).run P w = .ok (.value u) w' := by
  obtain ⟨dst, op, type, pos, after, guard⟩ := o
  unfold aAlloc at hh
  cases op <;> simp only at hh <;> try exact hh.elim
  case alloc t =>
    obtain ⟨i, z, hi, hz, hh⟩ := zeroOf_iff.1 hh
    have hrz := run_zero_ok (P := P) (w := w) hi hz
    refine ⟨_, _, _, _, hh, Made.rowAll (us := z.cells) (T := t) (ofCells_rel _) fun σ' i hi => ARel.fresh hi, ?_⟩
    simp [execOp, Instr.alloc, hrz, newVar, newRow]
  case box t x =>
    have hx := ev_rel he x
    have hnb := chkT_nonbot hh
    have hh := chkT_imp hh
    refine ⟨_, _, _, _, hh, Made.rowAll (us := (a.eval x).cells) (T := t) (cellsOf_rel hx hnb) fun σ' i hi => ARel.fresh hi, ?_⟩
    simp [execOp, Instr.box, newVar, newRow]
  case buildSlice t len parts =>
    split at hh
    · rename_i e ht
      obtain ⟨hle, hh⟩ := ite_fail.1 hh
      obtain ⟨i, z, hi, hz, hh⟩ := zeroOf_iff.1 hh
      simp only [guardR_iff, ob_iff, zOk, beq_iff_eq] at hh
      obtain ⟨hzs, cs, hf, hh⟩ := hh
      have hrz := run_zero_ok (P := P) (w := w) hi hz
      have hso := run_sizeOf_ok (P := P) (w := w) ⟨i, hi⟩
      have hzr := zeros_rel (σ := σ) z.cells len
      obtain ⟨r', h1, h2⟩ := aFill_sound _ _ _ _ cs (parts_rel he parts) hzr hf
      have hlen : (((Array.range (len * z.cells.size)).map (fun i => (if len * z.cells.size = 0 then #[] else z.cells)[i % (if len * z.cells.size = 0 then #[] else z.cells).size]!))).size = len * z.cells.size := by simp
      refine ⟨_, _, _, _, hh, Made.rowAll (us := r') (T := e) h2 fun σ' i hi => SlRel.fresh hi (Nat.le_refl _), ?_⟩
      rw [hzs] at h1
      have hle' : ¬ (len * P.cellsOf e > 2 ^ 24) := by omega
      simp only [execOp, Instr.buildSlice, Sem.run_bind, run_underlying ht, Result.andThen_ok, hso, Sem.run_ite, if_neg hle', Sem.run_pure]
      by_cases h0 : len * P.cellsOf e = 0
      · simp only [h0, if_true, Result.andThen_ok] at h1 ⊢
        simp only [h1, newRow, Sem.run_bind, run_newObj, Result.andThen_ok, Sem.run_pure]
        rfl
      · simp only [h0, if_false, Result.andThen_ok, hrz] at h1 ⊢
        simp only [h1, newRow, Sem.run_bind, run_newObj, Result.andThen_ok, Sem.run_pure]
        rfl
    · exact hh.elim
  case makeSlice t l c =>
    split at hh
    · rename_i e ht
      obtain ⟨ln, hl, hh⟩ := chkInt_iff.1 hh
      obtain ⟨cn, hc, hh⟩ := chkInt_iff.1 hh
      simp only [ite_fail] at hh
      obtain ⟨⟨h1, h2, h3, h4⟩, hh⟩ := hh
      obtain ⟨i, z, hi, hz, hh⟩ := zeroOf_iff.1 hh
      simp only [guardR_iff, zOk, beq_iff_eq] at hh
      obtain ⟨hzs, hh⟩ := hh
      have hrz := run_zero_ok (P := P) (w := w) hi hz
      have hso := run_sizeOf_ok (P := P) (w := w) ⟨i, hi⟩
      have hl' := ev_rel he l
      have hc' := ev_rel he c
      rw [hl] at hl'; rw [hc] at hc'
      have hl2 := hl'.of_int
      have hc2 := hc'.of_int
      have hzr := zeros_rel (σ := σ) z.cells cn.toNat
      have hw : ∀ n : Int, 0 ≤ n → n ≤ 1099511627776 → IntKind.i64.wrap n = n := fun n h0 h1 => IntWalk.i64_in n (by omega)
      have hby : P.bytesOf e = i.bytes := by simp [Program.bytesOf, hi]
      have hbig : ¬ ((i.bytes : Int) * cn > 2 ^ 48) := by
        rw [← hby]
        have hb' : (P.bytesOf e : Int) ≤ 128 := by omega
        have : (P.bytesOf e : Int) * cn ≤ 128 * 1099511627776 := Int.mul_le_mul hb' h3 (by omega) (by omega)
        omega
      refine ⟨_, _, _, _, hh, Made.rowAll (us := (Array.range (cn.toNat * z.cells.size)).map (fun i => (if cn.toNat * z.cells.size = 0 then #[] else z.cells)[i % (if cn.toNat * z.cells.size = 0 then #[] else z.cells).size]!)) (T := e) hzr fun σ' i hi => SlRel.fresh (n := ln.toNat) (c := cn.toNat) hi (by omega), ?_⟩
      have e1 := hw ln h1 (by omega)
      have e2 := hw cn (by omega) h3
      have hn1 : ¬ (cn < 0) := by omega
      have hn2 : ¬ (ln < 0) := by omega
      have hn3 : ¬ (ln > cn) := by omega
      rw [hzs]
      simp only [execOp, Instr.makeSlice, Sem.run_bind, run_underlying ht, Result.andThen_ok, hl2, hc2, asInt, asIntOf, Sem.run_pure, typeInfo, run_program, hi, e1, e2, hn1, hn2, hn3, hbig,
        decide_false, Bool.or_self, Bool.false_or, Bool.or_false, Bool.false_eq_true, if_false, run_askRoom, hso, Sem.run_ite]
      by_cases h0 : cn.toNat * P.cellsOf e = 0
      · simp only [h0, if_true, Result.andThen_ok, newRow, Sem.run_bind, run_newObj, Sem.run_pure]
        rfl
      · simp only [h0, if_false, Result.andThen_ok, hrz, newRow, Sem.run_bind, run_newObj, Sem.run_pure]
        rfl
    · exact hh.elim
  case makeMap t r =>
    split at hh
    · refine ⟨_, _, .map (some w.heap.size), w.alloc (.map #[] 0), hh, ⟨rfl, rfl, rfl, by simp, fun k hk => heap_alloc_old w _ k hk, 0, fun σ' _ => ⟨rfl, #[], heap_alloc_new w _, trivial⟩, fun σ' i hi => .map _ _ (by simp [MRel, hi])⟩, ?_⟩
      simp [execOp, Instr.makeMap]
    · exact hh.elim
  case convert src dst x =>
    have hx := ev_rel he x
    split at hh
    · rename_i e hs hd
      obtain ⟨he8, hh⟩ := ite_fail.1 hh
      split at he8
      case h_2 => cases he8
      rename_i hu8
      obtain ⟨s, hp, hh⟩ := chkStr_iff.1 hh
      rw [hp] at hx
      obtain ⟨b, hb, hbs⟩ := hx.of_str
      have hsz : b.size = s.length := by rw [← hbs, Array.length_toList]; rfl
      have hcap : b.size ≤ grownCap w b.size 0 e := grownCap_ge w _ _ _
      have hus : (Lib.bytesCells w e b).size = grownCap w b.size 0 e := by
        have : b.data.size = b.size := rfl
        simp [Lib.bytesCells]; omega
      have hrel : VRels σ (s.map fun b => AV.int .u8 b.toNat) ((Lib.bytesCells w e b).toList.take (s.map fun b => AV.int .u8 b.toNat).length) := by
        have : (Lib.bytesCells w e b).toList.take (s.map fun b => AV.int .u8 b.toNat).length = s.map fun b => Value.int .u8 b.toNat := by
          simp only [Lib.bytesCells, Array.toList_append, Array.toList_map, hbs, List.length_map]
          rw [List.take_left' (by simp)]
        rw [this]
        exact All2.maps _ _ _ fun x _ => .int _ _
      refine ⟨_, _, .slice (some ⟨w.heap.size, 0, none⟩) b.size (grownCap w b.size 0 e), Lib.bytesWorld w e b, hh, ⟨rfl, rfl, rfl, by rw [Lib.bytesWorld_size]; omega, fun k hk => Lib.bytesWorld_at_old w e b k hk, (Lib.bytesCells w e b).size,
        fun σ' hle => ⟨_, e, _, Lib.bytesWorld_at_new w e b, rfl, by simp; omega, fun _ k hk hk' => by simp at hk'; omega, by rw [List.drop_zero]; exact hrel.mono hle⟩, fun σ' i hi => ?_⟩, ?_⟩
      · refine .slice _ _ _ _ ⟨hsz, Nat.le_refl _, by simp; omega, by simp, by simp, fun _ => by simp [ARel, hi], fun sz hsz0 h0 b' base dsz hb' => ?_⟩
        simp at hsz0
        subst hsz0
        simp only at hb'
        rw [hi] at hb'
        cases hb'
        simp; omega
      · have := Lib.run_convert_string_bytes (P := P) w src dst e b hs hd hu8
        simp [execOp, hb, this]
    · exact hh.elim

end
end Go.Abs
