/- What the abstract machine says of an operation that reads no memory holds of the model's: operators, slices, literals. -/
import Derived.Test.YtdpecfeofcibhaaA3
import Derived.Laws.StructEq
namespace Go.Abs
section
variable {σ : Sig} {P : Program} {w : World}

/-- A step's answer, and the model's. -/
def Ans (σ : Sig) (P : Program) (w : World) (s : Sem Value) (K : AV → Prop) : Prop := ∃ v u, K v ∧ VRel σ v u ∧ s.run P w = .ok u w

theorem Ans.mk {s : Sem Value} {K : AV → Prop} {v : AV} {u : Value} (hK : K v) (hr : VRel σ v u) (h : s.run P w = .ok u w) : Ans σ P w s K := ⟨v, u, hK, hr, h⟩

theorem aInts_sound {op : BinOp} {k : IntKind} {a b : Int} {K : AV → Prop} {t : TypeId} (h : aInts op k a b K) (hs : op ≠ .shl) (hs' : op ≠ .shr) : Ans σ P w (binOp op t (.int k a) (.int k b)) K := by
  cases op <;> simp only [aInts, aIntBits, ite_fail'] at h
  all_goals first
    | exact absurd rfl hs
    | exact absurd rfl hs'
    | exact .mk h (.int _ _) (by simp only [binOp, ne_eq, not_true, if_false]; rfl)
    | exact .mk h (.bool _) (by simp only [binOp, ne_eq, not_true, if_false]; rfl)
    | (obtain ⟨hb, h⟩ := h; exact .mk h (.int _ _) (by simp [binOp, Op.intDiv, hb]))

theorem str_beq {s s' : ByteArray} {l l' : List UInt8} (h : s.data.toList = l) (h' : s'.data.toList = l') : (s.toList == s'.toList) = (l == l') := by
  rw [ByteArray.toList_eq, ByteArray.toList_eq, h, h']

theorem aStrs_sound {op : BinOp} {l l' : List UInt8} {s s' : ByteArray} {K : AV → Prop} {t : TypeId} (h : aStrs op l l' K) (hl : s.data.toList = l) (hl' : s'.data.toList = l') : Ans σ P w (binOp op t (.string s) (.string s')) K := by
  have e1 : s.toList = l := by rw [ByteArray.toList_eq]; exact hl
  have e2 : s'.toList = l' := by rw [ByteArray.toList_eq]; exact hl'
  have z1 : s.size = l.length := by rw [← hl, Array.length_toList]; rfl
  have z2 : s'.size = l'.length := by rw [← hl', Array.length_toList]; rfl
  cases op <;> simp only [aStrs, ite_fail] at h
  · obtain ⟨hb, h⟩ := h
    refine .mk h (.str _ (s ++ s') (by simp [hl, hl'])) ?_
    have : ¬ ((s.size + s'.size : Nat) : Int) > IntKind.i64.max := by
      have : IntKind.i64.max = 9223372036854775807 := by decide
      rw [this]; omega
    simp [binOp, Op.stringOp]
    simpa using this
  all_goals first
    | exact h.elim
    | exact .mk h (.bool _) (by simp only [binOp, Op.stringOp, e1, e2]; rfl)

theorem eqFields_sound {d : Nat} {eq : TypeId → AV → AV → (Bool → Prop) → Prop}
    (heq : ∀ t x y u v (K : Bool → Prop), eq t x y K → VRel σ x u → VRel σ y v → ∃ b, K b ∧ (Op.equalIn d t u v).run P w = .ok b w) {xs ys : List AV} {us vs : Array Value} (hx : VRels σ xs us.toList) (hy : VRels σ ys vs.toList) :
    ∀ (fs : List Field) (K : Bool → Prop), (∀ f ∈ fs, f.name ≠ "_") → aEqF P eq xs ys fs K → ∃ b, K b ∧ (Op.eqFields d us vs fs).run P w = .ok b w
  | [], K, _, h => ⟨true, h, rfl⟩
  | f :: fs, K, hn, h => by
    simp only [aEqF, guardR_iff] at h
    obtain ⟨hok, h⟩ := h
    obtain ⟨x, u, h, hxu, hu⟩ := partOf_sound (P := P) (w := w) hx hok h
    obtain ⟨y, v, h, hyv, hv⟩ := partOf_sound (P := P) (w := w) hy hok h
    obtain ⟨b, h, hb⟩ := heq _ _ _ _ _ _ h hxu hyv
    obtain ⟨c, h, hc⟩ := eqFields_sound heq hx hy fs _ (fun g hg => hn g (by simp [hg])) h
    refine ⟨_, h, ?_⟩
    have hne : f.name ≠ "_" := hn f (by simp)
    simp only [Op.eqFields, hne, ne_eq, not_false_eq_true, if_true, Sem.run_bind, hu, hv, hb, Result.andThen_ok, Sem.run_ite]
    cases b
    · simp
    · simp [hc]

theorem aEqT_sound : ∀ (d : Nat) {e : Nat} (_ : d ≤ e) (t : TypeId) (x y : AV) (u v : Value) (K : Bool → Prop), aEqT P d t x y K → VRel σ x u → VRel σ y v →
    ∃ b, K b ∧ (Op.equalIn e t u v).run P w = .ok b w
  | 0, _, _, _, _, _, _, _, _, h, _, _ => h.elim
  | d + 1, 0, he, _, _, _, _, _, _, _, _, _ => absurd he (by omega)
  | d + 1, e + 1, he, t, x, y, u, v, K, h, hx, hy => by
    unfold aEqT at h
    split at h
    · rename_i ht
      simp only [chkBool_iff] at h
      obtain ⟨a, rfl, b, rfl, h⟩ := h
      rw [hx.of_bool, hy.of_bool]
      exact ⟨_, h, run_equalIn_bool' _ _ _ _ _ ht⟩
    · rename_i k ht
      simp only [chkInt_iff] at h
      obtain ⟨a, rfl, b, rfl, h⟩ := h
      rw [hx.of_int, hy.of_int]
      exact ⟨_, h, run_equalIn_int _ _ _ _ _ _ _ ht⟩
    · rename_i ht
      simp only [chkStr_iff] at h
      obtain ⟨a, rfl, b, rfl, h⟩ := h
      obtain ⟨s, rfl, hs⟩ := hx.of_str
      obtain ⟨s', rfl, hs'⟩ := hy.of_str
      refine ⟨_, h, ?_⟩
      rw [run_equalIn_string _ _ _ _ _ ht, str_beq hs hs']
    · rename_i fs ht
      split at h
      · rename_i xs ys
        simp only [guardR_iff, Bool.and_eq_true, Bool.not_eq_true', List.all_eq_true, bne_iff_ne, ne_eq] at h
        obtain ⟨⟨hst, hn⟩, h⟩ := h
        obtain ⟨us, rfl, hxs⟩ := VRel.agg_iff.1 hx
        obtain ⟨vs, rfl, hys⟩ := VRel.agg_iff.1 hy
        have hf : P.fieldsOf t = fs := by simp [Program.fieldsOf, ht]
        rw [run_equalIn_struct w e t us vs (by rw [hf]; exact ht) hst, hf]
        exact eqFields_sound (fun t x y u v K h hx hy => aEqT_sound d (by omega) t x y u v K h hx hy) hxs hys fs.toList K hn h
      · exact h.elim
    · exact h.elim

theorem run_eqGuard_plain (op : BinOp) (t : TypeId) (x y : Operand) (a b : Value) (h1 : ∀ cs, a ≠ .agg cs) (h2 : a ≠ .nilIface) : (eqGuard op t x y a b).run P w = .ok () w := by
  unfold eqGuard
  cases op <;> first
    | rfl
    | (cases a <;> first | rfl | exact absurd rfl (h1 _) | exact absurd rfl h2)

theorem eqIn_ptr0 (d : Nat) {t e : TypeId} (hu : P.underlying t = some (.pointer e)) (q : Option Addr) : (Op.equalIn (d + 1) t (.pointer none) (.pointer q)).run P w = .ok q.isNone w := by
  simp [Op.equalIn, run_underlying hu]
theorem eqIn_ptr1 (d : Nat) {t e : TypeId} (hu : P.underlying t = some (.pointer e)) (q : Option Addr) : (Op.equalIn (d + 1) t (.pointer q) (.pointer none)).run P w = .ok q.isNone w := by
  cases q <;> simp [Op.equalIn, run_underlying hu]
theorem eqIn_sl0 (d : Nat) {t e : TypeId} (hu : P.underlying t = some (.slice e)) (q : Option Addr) (n c n' c' : Nat) : (Op.equalIn (d + 1) t (.slice none n' c') (.slice q n c)).run P w = .ok q.isNone w := by
  simp [Op.equalIn, run_underlying hu]
theorem eqIn_sl1 (d : Nat) {t e : TypeId} (hu : P.underlying t = some (.slice e)) (q : Option Addr) (n c n' c' : Nat) : (Op.equalIn (d + 1) t (.slice q n c) (.slice none n' c')).run P w = .ok q.isNone w := by
  cases q <;> simp [Op.equalIn, run_underlying hu]

theorem run_eql_of {t : TypeId} {u v : Value} {b : Bool} (hb : binOp .eql t u v = (do pure (.bool (← Op.equal t u v)))) (h : (Op.equalIn (9999 + 1) t u v).run P w = .ok b w) : (binOp .eql t u v).run P w = .ok (.bool b) w := by
  have h' : (Op.equal t u v).run P w = .ok b w := h
  rw [hb]; simp only [Sem.run_bind, h', Result.andThen_ok, Sem.run_pure]

theorem run_neq_of {t : TypeId} {u v : Value} {b : Bool} (hb : binOp .neq t u v = (do pure (.bool (!(← Op.equal t u v))))) (h : (Op.equalIn (9999 + 1) t u v).run P w = .ok b w) : (binOp .neq t u v).run P w = .ok (.bool (!b)) w := by
  have h' : (Op.equal t u v).run P w = .ok b w := h
  rw [hb]; simp only [Sem.run_bind, h', Result.andThen_ok, Sem.run_pure]

theorem of_ptr_any {p : Option (Nat × Nat)} {u : Value} (h : VRel σ (.ptr p) u) : ∃ q, u = .pointer q ∧ p.isNone = q.isNone := by
  cases h with
  | ptr0 => exact ⟨none, rfl, rfl⟩
  | ptr i o a _ => exact ⟨some a, rfl, rfl⟩

theorem of_slice_any {p : Option Sl} {u : Value} (h : VRel σ (.slice p) u) : ∃ q n c, u = .slice q n c ∧ p.isNone = q.isNone := by
  cases h with
  | slice0 => exact ⟨none, 0, 0, rfl, rfl⟩
  | slice s a n c _ => exact ⟨some a, n, c, rfl, rfl⟩

theorem flatT_no : ∀ {d e : Nat} {t : TypeId}, flatT P d t = true → d ≤ e → P.eqGuardType e t = false
  | 0, _, _, h, _ => by cases h
  | d + 1, 0, _, _, he => by omega
  | d + 1, e + 1, t, h, he => by
    unfold flatT at h
    unfold Program.eqGuardType
    split at h
    · rename_i fs hu
      rw [hu]
      simp only
      rw [Array.any_eq_false]
      intro i hi
      have hf := List.all_eq_true.1 h (fs[i]) (by simp)
      simp [flatT_no hf (by omega : d ≤ e)]
    · rename_i hu; rw [hu]
    · rename_i hu; rw [hu]
    · rename_i hu; rw [hu]
    · cases h

theorem flatT_guard {t : TypeId} (h : flatT P 4 t = true) : P.eqGuardType P.depth t = false := by
  refine flatT_no h ?_
  unfold Program.depth Made.depth
  omega

theorem eqNil_imp {α : Type} {a b : Option α} {K : Bool → Prop} (h : eqNil a b K) : (b = none ∧ K a.isNone) ∨ (a = none ∧ K b.isNone) := by
  unfold eqNil at h
  cases b with
  | none => exact .inl ⟨rfl, h⟩
  | some b =>
    cases a with
    | none => exact .inr ⟨rfl, h⟩
    | some a => exact h.elim

theorem aBin_sound {op : BinOp} {t : TypeId} {x y : AV} {u v : Value} {ox oy : Operand} {K : AV → Prop} (h : aBin P op t x y K) (hx : VRel σ x u) (hy : VRel σ y v) :
    Ans σ P w (do eqGuard op t ox oy u v; binOp op t u v) K := by
  have key : (∀ cs, u ≠ .agg cs) → u ≠ .nilIface → Ans σ P w (binOp op t u v) K → Ans σ P w (do eqGuard op t ox oy u v; binOp op t u v) K := by
    rintro h1 h2 ⟨r, r', hK, hr, hrun⟩
    exact ⟨r, r', hK, hr, by simp [run_eqGuard_plain op t ox oy u v h1 h2, hrun]⟩
  unfold aBin at h
  split at h
  · obtain rfl := hx.of_int
    obtain rfl := hy.of_int
    simp only [ite_fail'] at h
    exact key (by simp) (by simp) (.mk h.2 (.int _ _) (by simp [binOp, Op.shift, h.1]))
  · obtain rfl := hx.of_int
    obtain rfl := hy.of_int
    simp only [ite_fail'] at h
    exact key (by simp) (by simp) (.mk h.2 (.int _ _) (by simp [binOp, Op.shift, h.1]))
  · obtain rfl := hx.of_int
    obtain rfl := hy.of_int
    simp only [ite_fail] at h
    obtain ⟨rfl, h⟩ := h
    exact key (by simp) (by simp) (aInts_sound h (by assumption) (by assumption))
  · obtain ⟨s, rfl, hs⟩ := hx.of_str
    obtain ⟨s', rfl, hs'⟩ := hy.of_str
    exact key (by simp) (by simp) (aStrs_sound h hs hs')
  · simp only [ite_fail] at h; obtain ⟨ht, h⟩ := h; split at ht; case h_2 => cases ht
    rename_i hu
    obtain rfl := hx.of_bool; obtain rfl := hy.of_bool
    exact key (by simp) (by simp) (.mk h (.bool _) (by exact run_eql_of rfl (run_equalIn_bool' _ _ _ _ _ hu)))
  · simp only [ite_fail] at h; obtain ⟨ht, h⟩ := h; split at ht; case h_2 => cases ht
    rename_i hu
    obtain rfl := hx.of_bool; obtain rfl := hy.of_bool
    exact key (by simp) (by simp) (.mk h (.bool _) (by exact run_neq_of rfl (run_equalIn_bool' _ _ _ _ _ hu)))
  · simp only [ite_fail] at h; obtain ⟨ht, h⟩ := h; split at ht; case h_2 => cases ht
    rename_i hu
    replace h := eqNil_imp h
    rcases h with ⟨rfl, h⟩ | ⟨rfl, h⟩
    · obtain rfl := hy.of_ptr0; obtain ⟨q, rfl, hq⟩ := of_ptr_any hx
      refine key (by simp) (by simp) (.mk h (.bool _) ?_)
      rw [hq]; exact run_eql_of rfl (eqIn_ptr1 _ hu _)
    · obtain rfl := hx.of_ptr0; obtain ⟨q, rfl, hq⟩ := of_ptr_any hy
      exact key (by simp) (by simp) (.mk h (.bool _) (by rw [hq]; exact run_eql_of rfl (eqIn_ptr0 _ hu _)))
  · simp only [ite_fail] at h; obtain ⟨ht, h⟩ := h; split at ht; case h_2 => cases ht
    rename_i hu
    replace h := eqNil_imp h
    rcases h with ⟨rfl, h⟩ | ⟨rfl, h⟩
    · obtain rfl := hy.of_ptr0; obtain ⟨q, rfl, hq⟩ := of_ptr_any hx
      refine key (by simp) (by simp) (.mk h (.bool _) ?_)
      rw [hq]; exact run_neq_of rfl (eqIn_ptr1 _ hu _)
    · obtain rfl := hx.of_ptr0; obtain ⟨q, rfl, hq⟩ := of_ptr_any hy
      exact key (by simp) (by simp) (.mk h (.bool _) (by rw [hq]; exact run_neq_of rfl (eqIn_ptr0 _ hu _)))
  · simp only [ite_fail] at h; obtain ⟨ht, h⟩ := h; split at ht; case h_2 => cases ht
    rename_i hu
    replace h := eqNil_imp h
    rcases h with ⟨rfl, h⟩ | ⟨rfl, h⟩
    · obtain rfl := hy.of_slice0; obtain ⟨q, n, c, rfl, hq⟩ := of_slice_any hx
      refine key (by simp) (by simp) (.mk h (.bool _) ?_)
      rw [hq]; exact run_eql_of rfl (eqIn_sl1 _ hu _ _ _ _ _)
    · obtain rfl := hx.of_slice0; obtain ⟨q, n, c, rfl, hq⟩ := of_slice_any hy
      exact key (by simp) (by simp) (.mk h (.bool _) (by rw [hq]; exact run_eql_of rfl (eqIn_sl0 _ hu _ _ _ _ _)))
  · simp only [ite_fail] at h; obtain ⟨ht, h⟩ := h; split at ht; case h_2 => cases ht
    rename_i hu
    replace h := eqNil_imp h
    rcases h with ⟨rfl, h⟩ | ⟨rfl, h⟩
    · obtain rfl := hy.of_slice0; obtain ⟨q, n, c, rfl, hq⟩ := of_slice_any hx
      refine key (by simp) (by simp) (.mk h (.bool _) ?_)
      rw [hq]; exact run_neq_of rfl (eqIn_sl1 _ hu _ _ _ _ _)
    · obtain rfl := hx.of_slice0; obtain ⟨q, n, c, rfl, hq⟩ := of_slice_any hy
      exact key (by simp) (by simp) (.mk h (.bool _) (by rw [hq]; exact run_neq_of rfl (eqIn_sl0 _ hu _ _ _ _ _)))
  · rw [guardR_iff] at h
    obtain ⟨hg, h⟩ := h
    replace hg := flatT_guard hg
    obtain ⟨us, rfl, _⟩ := VRel.agg_iff.1 hx
    obtain ⟨vs, rfl, _⟩ := VRel.agg_iff.1 hy
    obtain ⟨b, h, hb⟩ := aEqT_sound (P := P) (w := w) 20 (e := 10000) (by omega) _ _ _ _ _ _ h hx hy
    refine .mk h (.bool _) ?_
    simp only [Sem.run_bind, run_eqGuard_agg w _ _ _ _ _ _ hg, Result.andThen_ok, run_eql_struct, hb]
  · rw [guardR_iff] at h
    obtain ⟨hg, h⟩ := h
    replace hg := flatT_guard hg
    obtain ⟨us, rfl, _⟩ := VRel.agg_iff.1 hx
    obtain ⟨vs, rfl, _⟩ := VRel.agg_iff.1 hy
    obtain ⟨b, h, hb⟩ := aEqT_sound (P := P) (w := w) 20 (e := 10000) (by omega) _ _ _ _ _ _ h hx hy
    refine .mk h (.bool _) ?_
    simp only [Sem.run_bind, run_eqGuard_agg w _ _ _ _ _ _ hg, Result.andThen_ok, run_neq_struct, hb]
  · exact h.elim

theorem aUn_sound {op : UnOp} {x : AV} {u : Value} {K : AV → Prop} (h : aUn op x K) (hx : VRel σ x u) : Ans σ P w (Op.unary op u) K := by
  unfold aUn at h
  split at h
  · obtain rfl := hx.of_int; exact .mk h (.int _ _) rfl
  · obtain rfl := hx.of_int; exact .mk h (.int _ _) rfl
  · obtain rfl := hx.of_bool; exact .mk h (.bool _) rfl
  · exact h.elim

/-! ## min, max -/

theorem aMinMaxFrom_sound (mx : Bool) (k : IntKind) : ∀ (l : List AV) (us : List Value) (a : Int) (K : AV → Prop), aMinMaxFrom mx k a l K → VRels σ l us →
    Ans σ P w (us.foldlM (if mx then Builtin.max2 else Builtin.min2) (.int k a)) K
  | [], [], a, K, h, _ => .mk h (.int _ _) rfl
  | y :: l, u :: us, a, K, h, hr => by
    unfold aMinMaxFrom at h
    split at h
    · simp only [ite_fail] at h
      obtain ⟨rfl, h⟩ := h
      obtain rfl := hr.1.of_int
      obtain ⟨v, u, hK, hv, hrun⟩ := aMinMaxFrom_sound mx k l us _ K h hr.2
      refine .mk hK hv ?_
      rw [List.foldlM_cons]
      cases mx
      · simpa [Builtin.min2] using hrun
      · simpa [Builtin.max2] using hrun
    · exact h.elim
  | [], _ :: _, _, _, _, hr => hr.elim
  | _ :: _, [], _, _, _, hr => hr.elim

theorem aMinMax_sound {mx : Bool} {l : List AV} {us : List Value} {K : AV → Prop} (h : aMinMax mx l K) (hr : VRels σ l us) (a : Array TypeId) (t : TypeId) :
    Ans σ P w (if mx then Builtin.max_ a t us.toArray else Builtin.min_ a t us.toArray) K := by
  unfold aMinMax at h
  split at h
  · cases us with
    | nil => exact hr.elim
    | cons u us =>
      obtain rfl := hr.1.of_int
      have := aMinMaxFrom_sound (P := P) (w := w) mx _ _ us _ K h hr.2
      cases mx <;> simpa [Builtin.max_, Builtin.min_] using this
  · exact h.elim

end
end Go.Abs
