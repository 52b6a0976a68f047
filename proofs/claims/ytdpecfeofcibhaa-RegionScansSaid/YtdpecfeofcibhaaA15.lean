/- Operations that are apart may be carried out the other way round. -/
import Derived.Test.YtdpecfeofcibhaaA14
namespace Go.Abs
section
variable {P : Program} {M : FuncId → Keep}

/-! ## Something comes of it -/

def CSome (C : CallP) : Prop := ∀ f args h K, C f args h K → ∃ v h', K v h'
def LSome (L : LoopP) : Prop := ∀ kp c env h K, L kp c env h K → ∃ e env' h', K e env' h'

theorem aNews_some {h : AH} {size : Nat} {x : AV} {K : List AV → Nat → Prop} (hh : aNews h size x K) : ∃ a n, K a n := by
  unfold aNews at hh
  split at hh
  · exact ⟨_, _, hh⟩
  · obtain ⟨_, _, hh⟩ := ob_iff.1 hh; exact ⟨_, _, hh⟩
  · exact ⟨_, _, (ite_fail.1 hh).2⟩
  · exact hh.elim

theorem aAppend_some {h : AH} {size bytes : Nat} {s : Option Sl} {new : List AV} {n : Nat} {K : Option Sl → AH → Prop} (hh : aAppend h size bytes s new n K) : ∃ v h', K v h' := by
  unfold aAppend at hh
  split at hh
  · split at hh
    · exact ⟨_, _, hh⟩
    · exact ⟨_, _, (ite_fail.1 hh).2⟩
  · split at hh
    · obtain ⟨_, _, hh⟩ := ob_iff.1 hh; exact ⟨_, _, hh⟩
    · obtain ⟨_, hh⟩ := ite_fail.1 hh
      obtain ⟨_, _, hh⟩ := ob_iff.1 hh
      split at hh
      · exact ⟨_, _, hh⟩
      · obtain ⟨_, hh⟩ := ite_fail.1 hh
        split at hh
        · exact ⟨_, _, hh⟩
        · exact hh.elim

theorem findIx_some {t : TypeId} {k : AV} : ∀ (es : List MEnt) (i : Nat) {K : Option Nat → Prop}, findIx P t k es i K → ∃ v, K v
  | [], _, _, h => ⟨_, h⟩
  | e :: es, i, K, h => by
    unfold findIx at h
    obtain ⟨b, hb⟩ := aEqT_det _ _ _ _ _ h
    rw [hb] at h
    cases b
    · exact findIx_some es _ h
    · exact ⟨_, (guardR_iff.1 h).2⟩

theorem aBuiltin_some {b : Builtin} {ts : Array TypeId} {args : List AV} {h : AH} {K : AV → AH → Prop} (hh : aBuiltin P b ts args h K) : ∃ v h', K v h' := by
  unfold aBuiltin at hh
  cases b <;> simp only at hh <;> try exact hh.elim
  case append =>
    split at hh
    · split at hh
      · obtain ⟨_, hh⟩ := guardR_iff.1 hh
        obtain ⟨_, _, hh⟩ := chkSl_iff.1 hh
        obtain ⟨_, _, hh⟩ := aNews_some hh
        obtain ⟨_, _, _, _, hh⟩ := zeroOf_iff.1 hh
        obtain ⟨_, _, hh⟩ := aAppend_some (guardR_iff.1 hh).2
        exact ⟨_, _, hh⟩
      · exact hh.elim
    · exact hh.elim
  case copy =>
    split at hh
    · split at hh
      · obtain ⟨_, hh⟩ := guardR_iff.1 hh
        obtain ⟨s, _, hh⟩ := chkSl_iff.1 hh
        cases s with
        | none => obtain ⟨_, _, hh⟩ := aNews_some hh; exact ⟨_, _, hh⟩
        | some d =>
          obtain ⟨_, _, hh⟩ := aNews_some hh
          obtain ⟨_, hh⟩ := guardR_iff.1 hh
          obtain ⟨_, _, hh⟩ := ob_iff.1 hh
          exact ⟨_, _, hh⟩
      · exact hh.elim
    · exact hh.elim
  case clear =>
    split at hh
    · split at hh
      · exact ⟨_, _, hh⟩
      · obtain ⟨_, _, _, _, hh⟩ := zeroOf_iff.1 hh
        obtain ⟨_, hh⟩ := guardR_iff.1 hh
        obtain ⟨_, _, hh⟩ := ob_iff.1 hh
        exact ⟨_, _, hh⟩
    · exact ⟨_, _, hh⟩
    · exact ⟨_, _, hh⟩
    · obtain ⟨_, _, hh⟩ := ob_iff.1 hh; exact ⟨_, _, hh⟩
    · exact hh.elim
  case delete =>
    split at hh
    · obtain ⟨_, _, _, _, hh⟩ := zeroOf_iff.1 hh
      have hh := chkOne_imp hh
      have hh := ((aKey_iff _ _ _ _).1 hh).2
      obtain ⟨_, _, hh⟩ := ob_iff.1 hh
      obtain ⟨i, hh⟩ := findIx_some _ _ hh
      cases i <;> exact ⟨_, _, hh⟩
    · exact hh.elim

theorem aEff_some {C : CallP} (hc : CSome C) {o : Oper} {env : List AV} {h : AH} {K : AV → AH → Prop} (hh : aEff P C o env h K) : ∃ v h', K v h' := by
  obtain ⟨dst, op, type, pos, after, guard⟩ := o
  unfold aEff at hh
  cases op <;> simp only at hh <;> try exact hh.elim
  case store t x y =>
    rw [chkPtr_ob] at hh
    split at hh
    · obtain ⟨_, hh⟩ := ite_fail.1 hh
      obtain ⟨_, _, hh⟩ := ob_iff.1 hh
      exact ⟨_, _, hh⟩
    · exact hh.elim
  case mapUpdate t m k x =>
    split at hh
    · obtain ⟨_, _, _, _, hh⟩ := zeroOf_iff.1 hh
      have hh := chkOne_imp hh
      have hh := chkT_imp ((aKey_iff _ _ _ _).1 hh).2
      rw [chkMap_ob] at hh
      split at hh
      · obtain ⟨_, _, hh⟩ := ob_iff.1 hh
        obtain ⟨i, hh⟩ := findIx_some _ _ hh
        cases i <;> exact ⟨_, _, hh⟩
      · exact hh.elim
    · exact hh.elim
  case range t x =>
    split at hh
    · exact ⟨_, _, hh⟩
    · obtain ⟨_, _, hh⟩ := ob_iff.1 hh; exact ⟨_, _, hh⟩
    · exact hh.elim
  case next it s =>
    split at hh
    · cases s
      · simp only [cond_false] at hh
        split at hh
        · exact ⟨_, _, hh⟩
        · obtain ⟨es, _, hh⟩ := ob_iff.1 hh
          obtain ⟨_, hh⟩ := ite_fail'.1 hh
          have hh := hh 0 (by
            split
            · simp
            · rename_i hne
              simp only [List.isEmpty_iff, ← List.length_eq_zero_iff] at hne
              simp only [List.nil_append, List.length_map, List.length_append]
              omega)
          split at hh <;> first | exact ⟨_, _, hh⟩ | exact hh.elim | (split at hh <;> first | exact ⟨_, _, hh⟩ | exact hh.elim)
        · exact hh.elim
      · exact hh.elim
    · exact hh.elim
  case entry it =>
    split at hh
    · split at hh
      · obtain ⟨_, _, hh⟩ := ob_iff.1 hh
        obtain ⟨_, _, hh⟩ := ob_iff.1 hh
        obtain ⟨_, hh⟩ := ite_fail.1 hh
        obtain ⟨_, _, hh⟩ := ob_iff.1 hh
        exact ⟨_, _, hh⟩
      · exact hh.elim
    · exact hh.elim
  case call c =>
    split at hh
    · split at hh
      · obtain ⟨v, h', hh⟩ := hc _ _ _ _ hh
        exact ⟨v, h', chkT_imp hh⟩
      · exact hh.elim
    · exact aBuiltin_some hh
    · exact hh.elim

theorem aOp_some {C : CallP} (hc : CSome C) {o : Oper} {slot : Option Nat} {env : List AV} {h : AH} {K : Req → AV → AH → Prop} (hh : aOp P C o slot env h K) : ∃ q v h', K q v h' := by
  unfold aOp at hh
  split at hh
  · obtain ⟨v, hv⟩ := aPure_det hh; exact ⟨_, _, _, (hv _).1 hh⟩
  · obtain ⟨q, v, hk, _⟩ := aRead_again hh; exact ⟨_, _, _, hk⟩
  · obtain ⟨b, f, hb⟩ := aAlloc_det hh
    rw [hb] at hh
    split at hh
    · exact ⟨_, _, _, hh⟩
    · split at hh
      · exact ⟨_, _, _, hh⟩
      · exact hh.elim
  · obtain ⟨v, h', hk⟩ := aEff_some hc hh; exact ⟨_, _, _, hk⟩

theorem runD_some {C : CallP} (hc : CSome C) {ops : List Oper} {base : Nat} : ∀ (l : List DI) (pd : List (Nat × Req)) (env : List AV) (h : AH) {K : List AV → AH → Prop}, runD P C ops base l pd env h K → ∃ e h', K e h'
  | [], _, _, _, _, h => ⟨_, _, h⟩
  | d :: l, pd, env, h, K, hh => by
    unfold runD at hh
    obtain ⟨t, ht⟩ := wantedE_det hh
    rw [ht] at hh
    cases t
    · exact runD_some hc l _ _ _ hh
    · simp only [cond_true] at hh
      obtain ⟨q, v, h', hh⟩ := aOp_some hc hh
      cases hok : oks h' d.re pd
      · rw [hok] at hh; exact hh.elim
      · rw [hok] at hh
        simp only [cond_true, splitB_iff] at hh
        exact runD_some hc l _ _ _ hh

theorem exec_some {C : CallP} {L : LoopP} (hc : CSome C) (hl : LSome L) (kp : Keep) : ∀ (c : Code) (env : List AV) (h : AH) {K : AEx → List AV → AH → Prop}, exec P C L kp c env h K → ∃ e env' h', K e env' h'
  | .skip, _, _, _, h => ⟨_, _, _, h⟩
  | .region _ ops draw, env, h, K, hh => by
    unfold exec at hh
    cases draw
    · obtain ⟨_, _, hk⟩ := runD_some hc _ _ _ _ hh; exact ⟨_, _, _, hk⟩
    · simp only [cond_true] at hh
      split at hh
      · obtain ⟨_, _, hk⟩ := runD_some hc _ _ _ _ hh; exact ⟨_, _, _, hk⟩
      · exact hh.elim
  | .seq a b, env, h, K, hh => by
    unfold exec at hh
    obtain ⟨e, env, h, hh⟩ := exec_some hc hl kp a env h hh
    cases e with
    | normal =>
      simp only at hh
      split at hh
      · exact hl _ _ _ _ _ hh
      · exact exec_some hc hl kp b _ h hh
    | exit id => exact ⟨_, _, _, hh⟩
    | ret => exact ⟨_, _, _, hh⟩
  | .cond c a b, env, h, K, hh => by
    unfold exec at hh
    obtain ⟨t, _, hh⟩ := chkBool_iff.1 hh
    cases t
    · exact exec_some hc hl kp b env h hh
    · exact exec_some hc hl kp a env h hh
  | .block id c, env, h, K, hh => by
    unfold exec at hh
    obtain ⟨e, env, h, hh⟩ := exec_some hc hl kp c env h hh
    cases e with
    | exit id' =>
      simp only at hh
      cases hid : id' == id
      · rw [hid] at hh; exact ⟨_, _, _, hh⟩
      · rw [hid] at hh; exact ⟨_, _, _, hh⟩
    | normal => exact ⟨_, _, _, hh⟩
    | ret => exact ⟨_, _, _, hh⟩
  | .loop c, env, h, K, hh => by
    unfold exec at hh
    obtain ⟨_, hh⟩ := guardR_iff.1 hh
    obtain ⟨e, env', h', hh⟩ := hl _ _ _ _ _ hh
    obtain ⟨ws, hk, _⟩ := loopEnd_det (K := fun e ws => K e ws h') hh
    exact ⟨_, _, _, hk⟩
  | .scope c, env, h, _, hh => by
    unfold exec at hh
    exact exec_some hc hl kp c env h hh
  | .exit id, _, _, _, h => ⟨_, _, _, h⟩
  | .label _, _, _, _, h => ⟨_, _, _, h⟩
  | .ret, _, _, _, h => ⟨_, _, _, h⟩
  | .rangeFunc .., _, _, _, h => h.elim
  | .goto _, _, _, _, h => h.elim
  | .refuse _, _, _, _, h => h.elim

theorem aResults_some {env : List AV} {h : AH} : ∀ (l : List ResultVar) {K : List AV → Prop}, aResults P env h l K → ∃ v, K v
  | [], _, hh => ⟨_, hh⟩
  | .tmp t :: l, K, hh => by
    obtain ⟨v, hv⟩ := aResults_some l (K := fun vs => K (env.getD t .bot :: vs)) hh; exact ⟨_, hv⟩
  | .cell a t :: l, K, hh => by
    unfold aResults at hh
    rw [chkPtr_ob] at hh
    split at hh
    · obtain ⟨_, hh⟩ := guardR_iff.1 hh
      obtain ⟨_, _, _, _, hh⟩ := zeroOf_iff.1 hh
      split at hh
      · obtain ⟨_, _, hh⟩ := ob_iff.1 hh
        obtain ⟨v, hv⟩ := aResults_some l (chkCells_imp hh).1; exact ⟨_, hv⟩
      · obtain ⟨_, _, hh⟩ := ob_iff.1 hh
        obtain ⟨v, hv⟩ := aResults_some l (chkCell_imp hh); exact ⟨_, hv⟩
    · exact hh.elim

theorem some_both : CSome (ACall P M) ∧ LSome (ALoop P M) := by
  let C : CallP := fun f args h K => ∃ v h', K v h'
  let L : LoopP := fun kp c env h K => ∃ e env' h', K e env' h'
  have hC : CSome C := fun _ _ _ _ h => h
  have hL : LSome L := fun _ _ _ _ _ h => h
  have hcl : ClosedP P M C L := by
    refine ⟨⟨fun f args h K K' hk ⟨v, h', hh⟩ => ⟨v, h', hk _ _ hh⟩⟩, ⟨fun kp c env h K K' hk ⟨e, v, h', hh⟩ => ⟨e, v, h', hk _ _ _ hh⟩⟩, ?_, ?_⟩
    · intro f args h K hh
      unfold fstep at hh
      obtain ⟨fn, _, hh⟩ := ob_iff.1 hh
      obtain ⟨c, _, hh⟩ := ob_iff.1 hh
      obtain ⟨_, hh⟩ := guardR_iff.1 hh
      obtain ⟨e, env, h', hh⟩ := exec_some hC hL _ _ _ _ hh
      cases e with
      | normal => obtain ⟨v, hv⟩ := aResults_some _ hh; exact ⟨_, _, hv⟩
      | ret => obtain ⟨v, hv⟩ := aResults_some _ hh; exact ⟨_, _, hv⟩
      | exit id => exact hh.elim
    · intro kp c env h K hh
      unfold lstep at hh
      split at hh
      · exact exec_some hC hL _ _ _ _ hh
      obtain ⟨e, env, h', hh⟩ := exec_some hC hL _ _ _ _ hh
      cases e with
      | normal => exact hh
      | ret => exact ⟨_, _, _, hh⟩
      | exit id => exact ⟨_, _, _, hh⟩
  exact ⟨fun f args h K hh => hh C L hcl, fun kp c env h K hh => hh C L hcl⟩

/-! ## Swaps -/

theorem oks_nil {h : AH} {pd : List (Nat × Req)} : oks h [] pd = true := by
  unfold oks; rw [List.all_eq_true]; intro p _; simp

theorem oks_sub {h : AH} {re : List Nat} {pd pd' : List (Nat × Req)} (hs : ∀ p ∈ pd', p ∈ pd) (ho : oks h re pd = true) : oks h re pd' = true := by
  unfold oks at *; rw [List.all_eq_true] at *; exact fun p hp => ho p (hs p hp)

theorem oks_cons_none {h : AH} {re : List Nat} {pd : List (Nat × Req)} {i : Nat} (ho : oks h re pd = true) : oks h re ((i, .none) :: pd) = true := by
  unfold oks at *; rw [List.all_cons, ho]; simp [Req.ok]

theorem oks_head {h : AH} {re : List Nat} {pd : List (Nat × Req)} {i : Nat} {q : Req} (hi : i ∈ re) (ho : oks h re ((i, q) :: pd) = true) : q.ok h = true := by
  unfold oks at ho
  rw [List.all_cons, Bool.and_eq_true] at ho
  have := ho.1
  simpa [hi] using this

/-- May an operation be carried out ahead of one that the one order has before it? -/
structure Sw (P : Program) (base : Nat) (x y : DI) : Prop where
  comm : commK (kindOf P x.o) (kindOf P y.o) = true
  re : kindOf P x.o = .read → kindOf P y.o = .eff → x.i ∈ y.re
  xre : kindOf P x.o ≠ .eff → x.re = []
  yre : kindOf P y.o ≠ .eff → y.re = []
  xs : kindOf P x.o = .alloc → ∃ s, x.slot = some s
  ys : kindOf P y.o = .alloc → ∃ s, y.slot = some s
  ne : ∀ s, x.slot = some s → y.slot ≠ some s

theorem swap_op {C : CallP} (hcs : CSome C) (hcb : ∀ i B, CBirth i B C C) (hm : MonoC C) {base : Nat} {x y : DI} (hsw : Sw P base x y) {pd : List (Nat × Req)} {env : List AV} {h : AH} {K : Req → AV → Req → AV → AH → Prop}
    (hun : ∀ s, y.slot = some s → h[base + s]? = some .unborn)
    (hh : aOp P C x.o (x.slot.map (base + ·)) env h fun qx vx h1 => oks h1 x.re pd = true ∧ aOp P C y.o (y.slot.map (base + ·)) env h1 fun qy vy h2 => oks h2 y.re ((x.i, qx) :: pd) = true ∧ K qx vx qy vy h2) :
    aOp P C y.o (y.slot.map (base + ·)) env h fun qy vy h1 => oks h1 y.re pd = true ∧ aOp P C x.o (x.slot.map (base + ·)) env h1 fun qx vx h2 => oks h2 x.re ((y.i, qy) :: pd) = true ∧ K qx vx qy vy h2 := by
  have cle : CLe C C := fun _ _ _ _ h => h
  have sub : ∀ {h' re q}, oks h' re ((x.i, q) :: pd) = true → oks h' re pd = true := fun ho => oks_sub (fun p hp => List.mem_cons_of_mem _ hp) ho
  cases hky : kindOf P y.o with
  | pure =>
    have hyre := hsw.yre (by rw [hky]; simp)
    have hop : ∀ (h : AH) (K : Req → AV → AH → Prop), aOp P C y.o (y.slot.map (base + ·)) env h K = aPure P y.o env fun v => K .none v h := fun h K => by unfold aOp; rw [hky]
    simp only [hop] at hh ⊢
    obtain ⟨qx, vx, h1, _, hy⟩ := aOp_some hcs hh
    obtain ⟨v, hv⟩ := aPure_det hy
    simp only [hv] at hh ⊢
    rw [hyre]
    refine ⟨oks_nil, aOp_mono cle hm (fun q v h' hk => ?_) hh⟩
    exact ⟨oks_cons_none hk.1, hk.2.2⟩
  | read =>
    have hyre := hsw.yre (by rw [hky]; simp)
    have hop : ∀ (h : AH) (K : Req → AV → AH → Prop), aOp P C y.o (y.slot.map (base + ·)) env h K = aRead P y.o env h fun q v => K q v h := fun h K => by unfold aOp; rw [hky]
    cases hkx : kindOf P x.o with
    | pure =>
      have hxre := hsw.xre (by rw [hkx]; simp)
      have hox : ∀ (h : AH) (K : Req → AV → AH → Prop), aOp P C x.o (x.slot.map (base + ·)) env h K = aPure P x.o env fun v => K .none v h := fun h K => by unfold aOp; rw [hkx]
      simp only [hop, hox] at hh ⊢
      obtain ⟨v, hv⟩ := aPure_det hh
      simp only [hv, hxre, hyre] at hh ⊢
      exact aRead_mono (fun q v hk => ⟨oks_nil, oks_nil, hk.2⟩) hh.2
    | read =>
      have hxre := hsw.xre (by rw [hkx]; simp)
      have hox : ∀ (h : AH) (K : Req → AV → AH → Prop), aOp P C x.o (x.slot.map (base + ·)) env h K = aRead P x.o env h fun q v => K q v h := fun h K => by unfold aOp; rw [hkx]
      simp only [hop, hox, hxre, hyre] at hh ⊢
      obtain ⟨qx, vx, hk, ha⟩ := aRead_again hh
      exact aRead_mono (fun q v hk => ⟨oks_nil, ha _ (.inr rfl) _ ⟨oks_nil, hk.2⟩⟩) hk.2
    | alloc => have := hsw.comm; rw [hkx, hky] at this; cases this
    | eff => have := hsw.comm; rw [hkx, hky] at this; cases this
  | alloc =>
    have hyre := hsw.yre (by rw [hky]; simp)
    obtain ⟨sy, hsy⟩ := hsw.ys hky
    have hub := hun sy hsy
    have hop : ∀ (h : AH) (K : Req → AV → AH → Prop), aOp P C y.o (y.slot.map (base + ·)) env h K = aAlloc P y.o env fun b v => match h[base + sy]? with | some .unborn => K .none (v (base + sy)) (h.set (base + sy) b) | _ => Res.fail := fun h K => by
      unfold aOp; rw [hky, hsy]; rfl
    cases hkx : kindOf P x.o with
    | pure =>
      have hxre := hsw.xre (by rw [hkx]; simp)
      have hox : ∀ (h : AH) (K : Req → AV → AH → Prop), aOp P C x.o (x.slot.map (base + ·)) env h K = aPure P x.o env fun v => K .none v h := fun h K => by unfold aOp; rw [hkx]
      simp only [hop, hox] at hh ⊢
      obtain ⟨v, hv⟩ := aPure_det hh
      simp only [hv, hxre, hyre, hub] at hh ⊢
      exact aAlloc_mono (fun b f hk => ⟨oks_nil, oks_nil, hk.2⟩) hh.2
    | read =>
      have hxre := hsw.xre (by rw [hkx]; simp)
      have hox : ∀ (h : AH) (K : Req → AV → AH → Prop), aOp P C x.o (x.slot.map (base + ·)) env h K = aRead P x.o env h fun q v => K q v h := fun h K => by unfold aOp; rw [hkx]
      simp only [hop, hox, hxre, hyre, hub] at hh ⊢
      obtain ⟨qx, vx, hk, ha⟩ := aRead_again hh
      refine aAlloc_mono (fun b f hk => ⟨oks_nil, ?_⟩) hk.2
      exact HLe.aRead (HLe.born hub) (ha _ (.inr rfl) _ ⟨oks_nil, hk.2⟩)
    | alloc =>
      have hxre := hsw.xre (by rw [hkx]; simp)
      obtain ⟨sx, hsx⟩ := hsw.xs hkx
      have hne : sx ≠ sy := fun e => hsw.ne sx hsx (by rw [hsy, e])
      have hox : ∀ (h : AH) (K : Req → AV → AH → Prop), aOp P C x.o (x.slot.map (base + ·)) env h K = aAlloc P x.o env fun b v => match h[base + sx]? with | some .unborn => K .none (v (base + sx)) (h.set (base + sx) b) | _ => Res.fail := fun h K => by
        unfold aOp; rw [hkx, hsx]; rfl
      simp only [hop, hox, hxre, hyre] at hh ⊢
      obtain ⟨bx, fx, hbx⟩ := aAlloc_det hh
      simp only [hbx] at hh ⊢
      split at hh
      · rename_i hux
        have hne' : base + sx ≠ base + sy := by omega
        have hy := hh.2
        simp only [List.getElem?_set_ne hne', hub] at hy
        simp only [hub]
        refine aAlloc_mono (fun b f hk => ⟨oks_nil, ?_⟩) hy
        simp only [List.getElem?_set_ne (Ne.symm hne'), hux]
        rw [List.set_comm _ _ (Ne.symm hne')]
        exact ⟨oks_nil, hk.2⟩
      · exact hh.elim
    | eff =>
      have hox : ∀ (h : AH) (K : Req → AV → AH → Prop), aOp P C x.o (x.slot.map (base + ·)) env h K = aEff P C x.o env h fun v h' => K .none v h' := fun h K => by unfold aOp; rw [hkx]
      simp only [hop, hox, hyre] at hh ⊢
      have h0 := hh
      obtain ⟨_, h1, _, hy⟩ := aEff_some hcs h0
      obtain ⟨b, f, hb⟩ := aAlloc_det hy
      simp only [hb, hub] at hh ⊢
      refine ⟨oks_nil, ?_⟩
      have hbirth := aEff_birth (hcb (base + sy) b) hm hub hh
      refine aEff_mono cle hm (fun v h' hk => ?_) hbirth
      obtain ⟨g, hg1, rfl, hg3, hg4⟩ := hk
      rw [hg1] at hg4
      exact ⟨oks_cons_none ((HLe.born hg1).oks hg3), hg4.2⟩
  | eff =>
    have hop : ∀ (h : AH) (K : Req → AV → AH → Prop), aOp P C y.o (y.slot.map (base + ·)) env h K = aEff P C y.o env h fun v h' => K .none v h' := fun h K => by unfold aOp; rw [hky]
    cases hkx : kindOf P x.o with
    | pure =>
      have hxre := hsw.xre (by rw [hkx]; simp)
      have hox : ∀ (h : AH) (K : Req → AV → AH → Prop), aOp P C x.o (x.slot.map (base + ·)) env h K = aPure P x.o env fun v => K .none v h := fun h K => by unfold aOp; rw [hkx]
      simp only [hop, hox] at hh ⊢
      obtain ⟨v, hv⟩ := aPure_det hh
      simp only [hv, hxre] at hh ⊢
      exact aEff_mono cle hm (fun v h' hk => ⟨sub hk.1, oks_nil, hk.2⟩) hh.2
    | read =>
      have hxre := hsw.xre (by rw [hkx]; simp)
      have hxy := hsw.re hkx hky
      have hox : ∀ (h : AH) (K : Req → AV → AH → Prop), aOp P C x.o (x.slot.map (base + ·)) env h K = aRead P x.o env h fun q v => K q v h := fun h K => by unfold aOp; rw [hkx]
      simp only [hop, hox, hxre] at hh ⊢
      obtain ⟨qx, vx, hk, ha⟩ := aRead_again hh
      refine aEff_mono cle hm (fun v h' hk => ⟨sub hk.1, ?_⟩) hk.2
      exact ha _ (.inl (oks_head hxy hk.1)) _ ⟨oks_nil, hk.2⟩
    | alloc => have := hsw.comm; rw [hkx, hky] at this; cases this
    | eff => have := hsw.comm; rw [hkx, hky] at this; cases this


/-! ## Frames that agree on what an operation looks at -/

def Agree (o : Oper) (env env' : List AV) : Prop := ∀ x ∈ o.op.operands.toList, ev env x = ev env' x

theorem map_ev {env env' : List AV} {l : Array Operand} (h : ∀ x ∈ l.toList, ev env x = ev env' x) : l.toList.map (ev env) = l.toList.map (ev env') := List.map_congr_left h

theorem map_parts {env env' : List AV} {l : Array (Nat × Operand)} (h : ∀ x ∈ (l.toList.map (·.2)).toArray.toList, ev env x = ev env' x) : (l.toList.map fun p => (p.1, ev env p.2)) = l.toList.map fun p => (p.1, ev env' p.2) :=
  List.map_congr_left fun p hp => by rw [h p.2 (by simp; exact ⟨p.1, by simpa using hp⟩)]

theorem map_opt {env env' : List AV} {x : Option Operand} (h : ∀ y ∈ x.toArray.toList, ev env y = ev env' y) : x.map (ev env) = x.map (ev env') := by
  cases x with
  | none => rfl
  | some x => simp [h x (by simp)]

theorem aPure_congr {o : Oper} {env env' : List AV} (h : Agree o env env') (K : AV → Prop) : aPure P o env K = aPure P o env' K := by
  obtain ⟨dst, op, type, pos, after, guard⟩ := o
  unfold Agree at h
  unfold aPure
  cases op <;> simp only [Op.operands] at h ⊢
  case move x => rw [h x (by simp)]
  case assign x => rw [h x (by simp)]
  case pick c x y => rw [h c (by simp), h x (by simp), h y (by simp)]
  case nilCheck x => rw [h x (by simp)]
  case fieldAddr s x f => rw [h x (by simp)]
  case indexAddr t x i => rw [h x (by simp), h i (by simp)]
  case index t x i => rw [h x (by simp), h i (by simp)]
  case field t x f => rw [h x (by simp)]
  case binOp op t x y yt => rw [h x (by simp), h y (by simp)]
  case unOp op t x => rw [h x (by simp)]
  case convert s d x => rw [h x (by simp)]
  case makeFunc fn first captured =>
    rw [map_ev (l := first) fun x hx => h x (by simp at hx ⊢; exact .inl hx), map_ev (l := captured) fun x hx => h x (by simp at hx ⊢; exact .inr hx)]
  case extract t i => rw [h t (by simp)]
  case build t parts => rw [map_parts h]
  case slice t x lo hi mx =>
    rw [h x (by simp), map_opt (x := lo) fun y hy => h y (by simp at hy ⊢; simp [hy]), map_opt (x := hi) fun y hy => h y (by simp at hy ⊢; simp [hy]), map_opt (x := mx) fun y hy => h y (by simp at hy ⊢; simp [hy])]
  case call c =>
    have ha : ∀ x ∈ c.args.toList, ev env x = ev env' x := fun x hx => h x (by simp [Call.operands] at hx ⊢; exact .inr hx)
    rw [map_ev ha]
    split
    · split
      · rename_i t x hts hxs
        rw [ha x (by rw [hxs]; simp)]
      · rfl
    · rfl
    · rfl
    · rfl

theorem aRead_congr {o : Oper} {env env' : List AV} (h : Agree o env env') (hp : AH) (K : Req → AV → Prop) : aRead P o env hp K = aRead P o env' hp K := by
  obtain ⟨dst, op, type, pos, after, guard⟩ := o
  unfold Agree at h
  unfold aRead
  cases op <;> simp only [Op.operands] at h ⊢
  case load t x => rw [h x (by simp)]
  case convert s d x => rw [h x (by simp)]
  case lookup t m k ok => rw [h m (by simp), h k (by simp)]
  case call c =>
    have ha : ∀ x ∈ c.args.toList, ev env x = ev env' x := fun x hx => h x (by simp [Call.operands] at hx ⊢; exact .inr hx)
    split
    · split
      · rename_i t x hts hxs
        rw [ha x (by rw [hxs]; simp)]
      · rfl
    · rfl

theorem aAlloc_congr {o : Oper} {env env' : List AV} (h : Agree o env env') (K : ABlk → (Nat → AV) → Prop) : aAlloc P o env K = aAlloc P o env' K := by
  obtain ⟨dst, op, type, pos, after, guard⟩ := o
  unfold Agree at h
  unfold aAlloc
  cases op <;> simp only [Op.operands] at h ⊢
  case box t x => rw [h x (by simp)]
  case buildSlice t len parts => rw [map_parts h]
  case makeSlice t l c => rw [h l (by simp), h c (by simp)]
  case convert s d x => rw [h x (by simp)]

theorem aEff_congr {C : CallP} {o : Oper} {env env' : List AV} (h : Agree o env env') (hp : AH) (K : AV → AH → Prop) : aEff P C o env hp K = aEff P C o env' hp K := by
  obtain ⟨dst, op, type, pos, after, guard⟩ := o
  unfold Agree at h
  unfold aEff
  cases op <;> simp only [Op.operands] at h ⊢
  case store t x y => rw [h x (by simp), h y (by simp)]
  case mapUpdate t m k x => rw [h m (by simp), h k (by simp), h x (by simp)]
  case range t x => rw [h x (by simp)]
  case next it s => rw [h it (by simp)]
  case entry it => rw [h it (by simp)]
  case call c =>
    have ha : ∀ x ∈ c.args.toList, ev env x = ev env' x := fun x hx => h x (by simp [Call.operands] at hx ⊢; exact .inr hx)
    rw [map_ev ha]
    split
    · rename_i f hf
      rw [h f (by simp [Call.operands, hf])]
    · rfl
    · rfl

theorem aOp_congr {C : CallP} {o : Oper} {slot : Option Nat} {env env' : List AV} (h : Agree o env env') (hp : AH) (K : Req → AV → AH → Prop) : aOp P C o slot env hp K = aOp P C o slot env' hp K := by
  unfold aOp
  split
  · exact aPure_congr h _
  · exact aRead_congr h _ _
  · exact aAlloc_congr h _
  · exact aEff_congr h _ _

theorem ev_putE {env : List AV} {d : Option Tmp} {v : AV} {x : Operand} (h : ∀ t, d = some t → x ≠ .tmp t) : ev (putE env d v) x = ev env x := by
  cases d with
  | none => rfl
  | some d =>
    cases x with
    | tmp t =>
      have hne : d ≠ t := fun e => h d rfl (e ▸ rfl)
      simp [ev, putE, List.getElem?_set_ne hne]
    | _ => rfl

theorem looks_operand {ops : Array Oper} {o : Oper} {t : Tmp} (h : Operand.tmp t ∈ o.op.operands.toList) : t ∈ o.looksAt ops := by
  unfold Oper.looksAt
  exact List.mem_append_left _ (List.mem_filterMap.2 ⟨_, h, rfl⟩)

theorem agree_putE {ops : Array Oper} {o : Oper} {env : List AV} {d : Option Tmp} {v : AV} (h : ∀ t, d = some t → t ∉ o.looksAt ops) : Agree o (putE env d v) env := fun x hx => ev_putE fun t ht hxt => h t ht (looks_operand (hxt ▸ hx))

theorem wanted_putE {ops : Array Oper} {o : Oper} {env : List AV} {d : Option Tmp} {v : AV} (h : ∀ t, d = some t → t ∉ o.looksAt ops) (K : Bool → Prop) : wantedE ops.toList o (putE env d v) K = wantedE ops.toList o env K := by
  unfold wantedE
  split
  · rfl
  · rename_i g w hg
    split
    · rename_i t ht
      have hin : t ∈ o.looksAt ops := by
        unfold Oper.looksAt
        refine List.mem_append_right _ ?_
        rw [hg]
        rw [Array.getElem?_toList] at ht
        simp only [ht]
        simp
      cases d with
      | none => rfl
      | some d =>
        have hne : d ≠ t := fun e => h d rfl (e ▸ hin)
        simp [putE, List.getElem?_set_ne hne]
    · rfl

theorem putE_comm {env : List AV} {d d' : Option Tmp} {v v' : AV} (h : ∀ t, d = some t → d' ≠ some t) : putE (putE env d v) d' v' = putE (putE env d' v') d v := by
  cases d with
  | none => rfl
  | some d =>
    cases d' with
    | none => rfl
    | some d' =>
      have hne : d ≠ d' := fun e => h d rfl (e ▸ rfl)
      exact List.set_comm _ _ hne

/-- One step of a region. -/
def st (P : Program) (C : CallP) (ops : Array Oper) (base : Nat) (d : DI) (pd : List (Nat × Req)) (env : List AV) (h : AH) (K : List (Nat × Req) → List AV → AH → Prop) : Prop :=
  wantedE ops.toList d.o env fun t => bif t then aOp P C d.o (d.slot.map (base + ·)) env h fun q v h' => oks h' d.re pd = true ∧ K ((d.i, q) :: pd) (putE env d.o.dst v) h' else K pd (putE env d.o.dst (.tup [])) h

theorem runD_cons {C : CallP} (hm : MonoC C) {ops : Array Oper} {base : Nat} {d : DI} {l : List DI} {pd : List (Nat × Req)} {env : List AV} {h : AH} {K : List AV → AH → Prop} :
    runD P C ops.toList base (d :: l) pd env h K ↔ st P C ops base d pd env h fun pd env h => runD P C ops.toList base l pd env h K := by
  have cle : CLe C C := fun _ _ _ _ h => h
  conv => lhs; unfold runD
  unfold st
  constructor
  · intro hh
    obtain ⟨t, ht⟩ := wantedE_det hh
    rw [ht] at hh ⊢
    cases t
    · exact hh
    · simp only [cond_true] at hh ⊢
      refine aOp_mono cle hm (fun q v h' hh => ?_) hh
      cases hok : oks h' d.re pd
      · rw [hok] at hh; exact hh.elim
      · rw [hok] at hh
        simp only [cond_true, splitB_iff] at hh
        exact ⟨rfl, hh⟩
  · intro hh
    obtain ⟨t, ht⟩ := wantedE_det hh
    rw [ht] at hh ⊢
    cases t
    · exact hh
    · simp only [cond_true] at hh ⊢
      refine aOp_mono cle hm (fun q v h' hh => ?_) hh
      rw [hh.1]
      simp only [cond_true, splitB_iff]
      exact hh.2

theorem runD_sub {C : CallP} (hm : MonoC C) {ops : Array Oper} {base : Nat} : ∀ (l : List DI) {pd pd' : List (Nat × Req)} (_ : ∀ p ∈ pd', p ∈ pd) {env : List AV} {h : AH} {K : List AV → AH → Prop},
    runD P C ops.toList base l pd env h K → runD P C ops.toList base l pd' env h K
  | [], _, _, _, _, _, _, h => h
  | d :: l, pd, pd', hs, env, h, K, hh => by
    have cle : CLe C C := fun _ _ _ _ h => h
    rw [runD_cons hm] at hh ⊢
    unfold st at hh ⊢
    obtain ⟨t, ht⟩ := wantedE_det hh
    rw [ht] at hh ⊢
    cases t
    · exact runD_sub hm l hs hh
    · simp only [cond_true] at hh ⊢
      refine aOp_mono cle hm (fun q v h' hh => ⟨oks_sub hs hh.1, runD_sub hm l (fun p hp => ?_) hh.2⟩) hh
      rcases List.mem_cons.1 hp with rfl | hp
      · simp
      · exact List.mem_cons_of_mem _ (hs p hp)

/-- Two steps the other way round. -/
theorem swap_st {C : CallP} (hcs : CSome C) (hcb : ∀ i B, CBirth i B C C) (hm : MonoC C) {ops : Array Oper} {base : Nat} {x y : DI} (hsw : Sw P base x y) (hap : Oper.apart ops x.o y.o = true) {pd : List (Nat × Req)} {env : List AV} {h : AH}
    {l : List DI} {K : List AV → AH → Prop} (hun : ∀ s, y.slot = some s → h[base + s]? = some .unborn) (hh : runD P C ops.toList base (x :: y :: l) pd env h K) : runD P C ops.toList base (y :: x :: l) pd env h K := by
  have cle : CLe C C := fun _ _ _ _ h => h
  obtain ⟨a1, a2, a3⟩ := Oper.apart_spec hap
  have a2' : ∀ t, y.o.dst = some t → x.o.dst ≠ some t := fun t h1 h2 => a2 t h2 h1
  have e1 : ∀ v (K : Bool → Prop), wantedE ops.toList y.o (putE env x.o.dst v) K = wantedE ops.toList y.o env K := fun v K => wanted_putE a1 K
  have e2 : ∀ v (K : Bool → Prop), wantedE ops.toList x.o (putE env y.o.dst v) K = wantedE ops.toList x.o env K := fun v K => wanted_putE a3 K
  have e3 : ∀ v s h (K : Req → AV → AH → Prop), aOp P C y.o s (putE env x.o.dst v) h K = aOp P C y.o s env h K := fun v s h K => aOp_congr (agree_putE a1) h K
  have e4 : ∀ v s h (K : Req → AV → AH → Prop), aOp P C x.o s (putE env y.o.dst v) h K = aOp P C x.o s env h K := fun v s h K => aOp_congr (agree_putE a3) h K
  rw [runD_cons hm] at hh ⊢
  have hh2 : st P C ops base x pd env h fun pd env h => st P C ops base y pd env h fun pd env h => runD P C ops.toList base l pd env h K := by
    unfold st at hh ⊢
    obtain ⟨t, ht⟩ := wantedE_det hh
    rw [ht] at hh ⊢
    cases t
    · exact (runD_cons hm).1 hh
    · simp only [cond_true] at hh ⊢
      exact aOp_mono cle hm (fun q v h' hh => ⟨hh.1, (runD_cons hm).1 hh.2⟩) hh
  have hg : st P C ops base y pd env h fun pd env h => st P C ops base x pd env h fun pd env h => runD P C ops.toList base l pd env h K := by
    unfold st at hh2 ⊢
    simp only [e1, e2, e3, e4] at hh2 ⊢
    obtain ⟨tx, htx⟩ := wantedE_det hh2
    have hw : ∃ K : Bool → Prop, wantedE ops.toList y.o env K := by
      rw [htx] at hh2
      cases tx
      · simp only [cond_false] at hh2
        exact ⟨_, hh2⟩
      · simp only [cond_true] at hh2
        obtain ⟨_, _, _, hk⟩ := aOp_some hcs hh2
        exact ⟨_, hk.2⟩
    obtain ⟨_, hw⟩ := hw
    obtain ⟨ty, hty⟩ := wantedE_det hw
    simp only [htx, hty] at hh2 ⊢
    cases tx <;> cases ty
    · simp only [cond_false] at hh2 ⊢
      rw [putE_comm a2']; exact hh2
    · simp only [cond_false, cond_true] at hh2 ⊢
      refine aOp_mono cle hm (fun q v h' hh => ⟨hh.1, ?_⟩) hh2
      rw [putE_comm a2']; exact hh.2
    · simp only [cond_false, cond_true] at hh2 ⊢
      refine aOp_mono cle hm (fun q v h' hh => ⟨hh.1, ?_⟩) hh2
      rw [putE_comm a2']; exact hh.2
    · simp only [cond_true] at hh2 ⊢
      have := swap_op (K := fun qx vx qy vy h2 => runD P C ops.toList base l ((y.i, qy) :: (x.i, qx) :: pd) (putE (putE env x.o.dst vx) y.o.dst vy) h2 K) hcs hcb hm hsw hun hh2
      refine aOp_mono cle hm (fun qy vy h1 hh => ⟨hh.1, aOp_mono cle hm (fun qx vx h2 hh => ⟨hh.1, ?_⟩) hh.2⟩) this
      rw [putE_comm a2']
      refine runD_sub hm l (fun p hp => ?_) hh.2
      simp only [List.mem_cons] at hp ⊢
      rcases hp with h | h | h
      · exact .inr (.inl h)
      · exact .inl h
      · exact .inr (.inr h)
  unfold st at hg ⊢
  obtain ⟨t, ht⟩ := wantedE_det hg
  rw [ht] at hg ⊢
  cases t
  · exact (runD_cons hm).2 hg
  · simp only [cond_true] at hg ⊢
    exact aOp_mono cle hm (fun q v h' hh => ⟨hh.1, (runD_cons hm).2 hh.2⟩) hg

end
end Go.Abs
