/- What the abstract machine says of reads and of blocks that are made holds of the model's. -/
import Derived.Test.YtdpecfeofcibhaaA7
namespace Go.Abs
section
variable {σ : Sig} {P : Program} {w : World} {h : AH}

theorem HRel.mapAt (H : HRel σ h w) {r b : Nat} {es : List MEnt} {ck : Nat} (hm : h.mapAt r = some (es, ck)) (hr : MRel σ r b) :
    ∃ es' dsz, w.heap[b]? = some (.map es' ck) ∧ All2 (ERel σ) es es'.toList ∧ σ[r]? = some (.live b 0 dsz) ∧ h[r]? = some (.map es ck) := by
  unfold AH.mapAt at hm
  split at hm
  · rename_i es0 c0 hi
    cases hm
    obtain ⟨e, he, hB⟩ := H.lookup hi
    cases e <;> simp only [BRel] at hB
    rename_i b' base dsz
    obtain ⟨rfl, es', h1, h2⟩ := hB
    unfold MRel at hr; rw [he] at hr
    simp only at hr
    subst hr
    exact ⟨es', dsz, h1, h2, he, hi⟩
  · cases hm

theorem aKey_und {d : Nat} {t : TypeId} {x : AV} {K : Prop} (hh : aKey P d t x K) : ∃ d, P.underlying t = some d := by
  cases d with
  | zero => exact hh.elim
  | succ d =>
    unfold aKey at hh
    split at hh <;> first | exact ⟨_, by assumption⟩ | exact hh.elim

theorem run_findKey_nil {t : TypeId} {k : Value} (hu : ∃ d, P.underlying t = some d) : (Instr.findKey t k []).run P w = .ok none w :=
  run_findKey_of hu (by simp [Instr.findAsking]) fun d _ r hr => by simp [Instr.findNow] at hr; exact hr.symm

/-- An operation that reads memory. -/
theorem read_sound (H : HRel σ h w) {o : Oper} {env : List AV} {a : Act} {K : Req → AV → Prop} (he : EnvRel σ env a) (hh : aRead P o env h K) :
    ∃ q v u, K q v ∧ VRel σ v u ∧ (execOp a.eval o).run P w = .ok (.value u) w := by
  obtain ⟨dst, op, type, pos, after, guard⟩ := o
  unfold aRead at hh
  cases op <;> simp only at hh <;> try exact hh.elim
  case load t x =>
    have hx := ev_rel he x
    rw [chkPtr_ob] at hh
    split at hh
    · rename_i p hp
      rw [hp] at hx
      obtain ⟨i, o⟩ := p
      obtain ⟨b, hb, hab⟩ := hx.of_ptr
      obtain ⟨hok, hh⟩ := guardR_iff.1 hh
      obtain ⟨ti, z, hi, hz, hh⟩ := zeroOf_iff.1 hh
      have key : ∀ (K' : AV → Prop), (if isAggD (P.underlying t) then ob (h.cellsAt i o (P.cellsOf t)) fun cs => chkCells z.cells.toList cs fun cs => K' (.agg cs) else ob (h.cell i o) fun v => chkCell z v fun v => K' v) →
          ∃ v u, K' v ∧ VRel σ v u ∧ (loadVar t b).run P w = .ok u w := fun K' hl => loadVar_sound H hab hok hl
      obtain ⟨v, u, ⟨q, hq⟩, hr, hrun⟩ := key (fun v => ∃ q, K q v) (by
        split at hh
        · rename_i hag
          obtain ⟨cs, hc, hh⟩ := ob_iff.1 hh
          rw [if_pos hag]
          refine ob_iff.2 ⟨cs, hc, ?_⟩
          exact chkCells_mono (fun _ h => ⟨_, h⟩) hh
        · rename_i hag
          obtain ⟨v, hc, hh⟩ := ob_iff.1 hh
          rw [if_neg hag]
          refine ob_iff.2 ⟨v, hc, ?_⟩
          exact chkCell_mono (fun _ h => ⟨_, h⟩) hh)
      exact ⟨q, v, u, hq, hr, by simp [execOp, hb, Instr.loadAt, Instr.sureAddr, hrun]⟩
    · exact hh.elim
  case convert src dst x =>
    have hx := ev_rel he x
    split at hh
    · rename_i e hs hd
      obtain ⟨he8, hh⟩ := ite_fail.1 hh
      split at he8
      case h_2 => cases he8
      rename_i hu8
      have hcv : ∀ a l c, (convert src dst (.slice a l c)).run P w = (Conv.bytesToString (.slice a l c)).run P w := fun a l c => run_convert_bytes_string w src dst e a l c hs hu8 hd
      split at hh
      · rename_i s0 hp
        rw [hp] at hx
        unfold aBytes at hh
        split at hh
        · have hb := hx.of_slice0
          refine ⟨_, _, _, hh, .str [] ByteArray.empty rfl, ?_⟩
          simp [execOp, hb, hcv, Conv.bytesToString]
        rename_i s
        obtain ⟨b, len, cap, hb, hsl⟩ := hx.of_slice
        have hlen := hsl.len
        subst hlen
        split at hh
        · rename_i h0
          refine ⟨_, _, _, hh, .str [] ByteArray.empty rfl, ?_⟩
          have := run_bytesToString (P := P) w b 0 cap [] (by simp [loadCells, loadCellsFrom])
          simp [execOp, hb, hcv, h0, this]
        · rename_i h0
          obtain ⟨cs, hc, hh⟩ := ob_iff.1 hh
          obtain ⟨l, hl, hh⟩ := ob_iff.1 hh
          have hne : s.slack ≠ some 0 := fun h1 => by have := hsl.none0 h1; have := hsl.le; omega
          obtain ⟨us, h1, h2, h3, h4⟩ := H.cells (P := P) hc (hsl.at_ hne)
          obtain ⟨ns, rfl, rfl⟩ := bytesOf_rel hl h2
          refine ⟨_, _, _, hh, .str _ (ns.foldl (fun r n => r.push (UInt8.ofNat n.toNat)) ByteArray.empty) (by rw [foldl_push]; rfl), ?_⟩
          have := run_bytesToString (P := P) w b s.len cap ns h4
          simp [execOp, hb, hcv, this]
      · exact hh.elim
    · exact hh.elim
  case lookup t m k commaOk =>
    split at hh
    · rename_i key elem ht
      obtain ⟨ik, zk, hik, hzk, hh⟩ := zeroOf_iff.1 hh
      obtain ⟨ie, ze, hie, hze, hh⟩ := zeroOf_iff.1 hh
      have hh := chkOne_imp hh
      have hk := ev_rel he k
      have hm := ev_rel he m
      have hzr := run_zero_ok (P := P) (w := w) hie hze
      have hund := aKey_und hh
      obtain ⟨mm, hp, _⟩ := chkMap_iff.1 ((aKey_iff _ _ _ _).1 hh).2
      rw [hp] at hh hm
      simp only [chkMap] at hh
      cases mm with
      | none =>
        have hmb := hm.of_map0
        obtain ⟨hh, hck⟩ := aKey_sound (P := P) (w := w) (em := true) 20 (n := 10000) (by omega) key _ _ _ hh hk
        have hfk := run_findKey_nil (w := w) (k := a.eval k) hund
        cases commaOk
        · exact ⟨_, _, _, hh, ofConst_rel ze, by simp [execOp, hmb, Instr.lookup, run_underlying ht, hck, hfk, hzr]⟩
        · exact ⟨_, _, _, hh, VRel.tup_iff.2 ⟨#[ze, .bool false], rfl, ofConst_rel ze, .bool _, trivial⟩, by simp [execOp, hmb, Instr.lookup, run_underlying ht, hck, hfk, hzr]⟩
      | some r =>
        obtain ⟨b, hmb, hrb⟩ := hm.of_map
        obtain ⟨hh, _⟩ := aKey_sound (P := P) (w := w) (em := true) 20 (n := 10000) (by omega) key _ _ _ hh hk
        obtain ⟨⟨es, ck⟩, hes, hh⟩ := ob_iff.1 hh
        obtain ⟨es', dsz, hb, hall, _, _⟩ := H.mapAt hes hrb
        have hgo := MapKept.run_getObj_map (P := P) hb
        have hck : (Instr.checkKey es'.isEmpty 10000 key (a.eval k)).run P w = .ok () w := (aKey_sound (P := P) (w := w) 20 (n := 10000) (by omega) key _ _ _ (aKey_true (by assumption)) hk).2
        rcases findEnt_sound (P := P) (w := w) hk hall hh with ⟨j, e, e', hh, hee, h6, h7⟩ | ⟨hh, h6, h7⟩
        · have hfk := run_findKey_of (P := P) (w := w) hund (h6 0) fun d hd r hr => h7 d hd 0 r hr
          have hh := chkOne_imp hh
          cases commaOk
          · exact ⟨_, _, _, hh, hee.2.1, by simp [execOp, hmb, Instr.lookup, run_underlying ht, hgo, hck, hfk]⟩
          · exact ⟨_, _, _, hh, VRel.tup_iff.2 ⟨#[e'.val, .bool true], rfl, hee.2.1, .bool _, trivial⟩, by simp [execOp, hmb, Instr.lookup, run_underlying ht, hgo, hck, hfk]⟩
        · have hfk := run_findKey_of (P := P) (w := w) hund (h6 0) fun d hd r hr => h7 d hd 0 r hr
          cases commaOk
          · exact ⟨_, _, _, hh, ofConst_rel ze, by simp [execOp, hmb, Instr.lookup, run_underlying ht, hgo, hck, hfk, hzr]⟩
          · exact ⟨_, _, _, hh, VRel.tup_iff.2 ⟨#[ze, .bool false], rfl, ofConst_rel ze, .bool _, trivial⟩, by simp [execOp, hmb, Instr.lookup, run_underlying ht, hgo, hck, hfk, hzr]⟩
    · exact hh.elim
  case call c =>
    obtain ⟨callee, args, argTypes⟩ := c
    cases callee <;> simp only at hh <;> try exact hh.elim
    rename_i b
    cases b <;> simp only at hh <;> try exact hh.elim
    case len =>
      split at hh
      · rename_i t x hts hxs
        have hx := ev_rel he x
        obtain rfl : argTypes = #[t] := Array.toList_inj.1 hts
        obtain rfl : args = #[x] := Array.toList_inj.1 hxs
        split at hh
        · rename_i k e ht hp
          rw [hp] at hx
          have hb := hx.of_map0
          exact ⟨_, _, _, hh, .int _ _, by simp [execOp, resolve, invoke, builtin, Builtin.len_, run_underlying ht, hb, goInt]⟩
        · rename_i k e r ht hp
          rw [hp] at hx
          obtain ⟨b, hmb, hrb⟩ := hx.of_map
          obtain ⟨⟨es, ck⟩, hes, hh⟩ := ob_iff.1 hh
          obtain ⟨es', dsz, hb, hall, _, _⟩ := H.mapAt hes hrb
          have hgo := MapKept.run_getObj_map (P := P) hb
          have hl := hall.length
          simp only [Array.length_toList] at hl
          simp only [hl] at hh
          exact ⟨_, _, _, hh, .int _ _, by simp [execOp, resolve, invoke, builtin, Builtin.len_, run_underlying ht, hmb, hgo, goInt]⟩
        · exact hh.elim
      · exact hh.elim

end
end Go.Abs
