/- A call that the abstract machine ends is ended by the model, on every tape, and so answered. -/
import Derived.Test.YtdpecfeofcibhaaA16
import Derived.Scope
namespace Go.Abs
section
variable {P : Program} {M : FuncId → Keep}

theorem steps_op {ops : Array Oper} {bef : Array Nat} : ∀ (l before : List Nat) (k : Nat), ∀ d ∈ steps P ops bef l before k, d.o = ops.getD d.i default
  | [], _, _, d, h => by simp [steps] at h
  | i :: l, before, k, d, h => by
    simp only [steps, List.mem_cons] at h
    rcases h with rfl | h
    · rfl
    · exact steps_op l _ _ d h

theorem pairsOk_pw {ops : Array Oper} {bef : Array Nat} : ∀ (l : List DI), pairsOk P ops bef l = true → l.Pairwise fun x y => pairOk P ops bef x y = true
  | [], _ => .nil
  | x :: l, h => by
    simp only [pairsOk, Bool.and_eq_true, List.all_eq_true] at h
    exact .cons h.1 (pairsOk_pw l h.2)

theorem canon_rem {ops : Array Oper} {ds : List DI} {n : Nat} (h : canon P ops = some (ds, n)) : befOk ops (Region.before ops) = true ∧ befChain ops (Region.before ops) = true ∧ ds.length = ops.size ∧
    Rem P ops (Region.before ops) n ds (Array.replicate ops.size false) ∧ ∀ d ∈ ds, ∀ s, d.slot = some s → s < n := by
  unfold canon at h
  simp only at h
  split at h
  · rename_i hc
    simp only [Option.some.injEq, Prod.mk.injEq] at h
    obtain ⟨h1, h2⟩ := h
    rw [h1, h2] at hc
    simp only [Bool.and_eq_true, beq_iff_eq] at hc
    obtain ⟨⟨⟨⟨⟨c1, c2⟩, c3⟩, c4⟩, c5⟩, c6⟩ := hc
    have hlt : ∀ d ∈ ds, d.i < ops.size := by
      intro d hd
      have := List.all_eq_true.1 c5 d hd
      unfold diOk at this
      simp only [Bool.and_eq_true, decide_eq_true_eq] at this
      exact this.1.1.1
    refine ⟨c1, c2, c3, ⟨by simp, fun d hd => ?_, fun d hd => ?_, fun i hi => ?_, fun j hj => ?_, pairsOk_pw _ c6, fun d hd => List.all_eq_true.1 c5 d hd⟩, fun d hd s hs => ?_⟩
    · have := steps_op (P := P) (ops := ops) (bef := Region.before ops) _ _ _ d (by rw [h1]; exact hd)
      rw [this]
      simp [Array.getD_eq_getD_getElem?, hlt d hd]
    · simp [Array.getElem?_replicate, hlt d hd]
    · right
      have := List.all_eq_true.1 c4 i (by simpa using hi)
      obtain ⟨d, hd, hdi⟩ := List.any_eq_true.1 this
      exact ⟨d, hd, by simpa using hdi⟩
    · simp [Array.getElem?_replicate] at hj
    · have := List.all_eq_true.1 c5 d hd
      unfold diOk at this
      rw [hs] at this
      simp only [Bool.and_eq_true, decide_eq_true_eq] at this
      exact this.2
  · cases h

def toExit : AEx → Exit
  | .normal => .normal
  | .exit id => .exit id
  | .ret => .ret

/-- What the code's ways come to. -/
def Ways (σ : Sig) (h : AH) (w : World) (a : Act) (K : AEx → List AV → AH → Prop) (Q : Exit → Act → World → Prop) : Prop :=
  ∀ e env' h' σ' a' w', K e env' h' → EnvRel σ' env' a' → Step σ h w σ' h' w' → a'.defers = a.defers → a'.tmps.size = a.tmps.size → Q (toExit e) a' w'

theorem Ways.from {σ σ' : Sig} {h h' : AH} {w w' : World} {a a' : Act} {K : AEx → List AV → AH → Prop} {Q : Exit → Act → World → Prop} (hq : Ways σ h w a K Q) (hs : Step σ h w σ' h' w') (hd : a'.defers = a.defers) (hz : a'.tmps.size = a.tmps.size) : Ways σ' h' w' a' K Q :=
  fun e env' h'' σ'' a'' w'' hk he hs' hd' hz' => hq _ _ _ _ _ _ hk he (hs.trans hs') (hd'.trans hd) (hz'.trans hz)

/-- At a loop's body, with the loop around it. -/
def LoopX (P : Program) (c : Code) (Q : Exit → Act → World → Prop) (a : Act) (w : World) : Prop :=
  ∀ (b : Frame) (k : List Item) (cs : List Frame), ∃ e a' w', Q e a' w' ∧ Arrives P (lone (b.at a (.code c :: .inLoop c :: k)) cs w) b k cs e a' w'

theorem LoopX.step {c : Code} {Q : Exit → Act → World → Prop} {a : Act} {w : World} (h : c.wp P (Exit.then (LoopX P c Q) Q) a w) : LoopX P c Q a w := by
  intro b k cs
  obtain ⟨e, a₁, w₁, hq, harr⟩ := h b (.inLoop c :: k) cs
  cases e with
  | normal =>
    obtain ⟨e₂, a₂, w₂, hq₂, harr₂⟩ := hq b k cs
    exact ⟨e₂, a₂, w₂, hq₂, .of_steps (Steps.trans harr (.one step_inLoop)) harr₂⟩
  | exit id => exact ⟨_, a₁, w₁, hq, .pass (x := .inLoop c) rfl (fun _ _ => .inl (by simp)) harr⟩
  | goto l => exact ⟨_, a₁, w₁, hq, .pass (x := .inLoop c) rfl (fun _ _ => .inl (by simp)) harr⟩
  | ret => exact ⟨_, a₁, w₁, hq, .pass (x := .inLoop c) rfl (fun _ _ => .inl (by simp)) harr⟩
  | panic ch => exact ⟨_, a₁, w₁, hq, .pass (x := .inLoop c) rfl (fun _ _ => .inl (by simp)) harr⟩
  | outgrown => exact ⟨_, a₁, w₁, hq, .pass (x := .inLoop c) rfl (fun _ _ => .inl (by simp)) harr⟩

theorem LoopX.wp {c : Code} {Q : Exit → Act → World → Prop} {a : Act} {w : World} (h : LoopX P c Q a w) : (Code.loop c).wp P Q a w := by
  intro b k cs
  obtain ⟨e, a', w', hq, harr⟩ := h b k cs
  exact ⟨e, a', w', hq, .of_steps (.one step_loop) harr⟩

/-- At a loop's body, or at a join. -/
def HeldX (P : Program) (c : Code) (Q : Exit → Act → World → Prop) (a : Act) (w : World) : Prop :=
  match c with
  | .scope b => b.wp P Q a w
  | c => LoopX P c Q a w

def LSound (P : Program) (L : LoopP) : Prop := ∀ kp c env h K, L kp c env h K → ∀ σ a w Q, HRel σ h w → EnvRel σ env a → Ways σ h w a K Q → HeldX P c Q a w

theorem forget_get {k : Nat} : ∀ {i : Nat} {env : List AV}, (forget k i env).length = env.length ∧ ∀ t, (forget k i env).getD t .bot = .bot ∨ (forget k i env).getD t .bot = env.getD t .bot
  | _, [] => ⟨rfl, fun _ => .inl rfl⟩
  | i, v :: vs => by
    obtain ⟨h1, h2⟩ := forget_get (k := k) (i := i + 1) (env := vs)
    refine ⟨by simp [forget, h1], fun t => ?_⟩
    cases t with
    | zero => unfold forget; cases k.testBit i <;> simp
    | succ t => exact h2 t

theorem forget_rel {σ : Sig} {env : List AV} {a : Act} (h : EnvRel σ env a) (k : Nat) : EnvRel σ (forget k 0 env) a := by
  refine ⟨by rw [forget_get.1]; exact h.len, fun t => ?_⟩
  rcases (forget_get (k := k) (i := 0) (env := env)).2 t with h1 | h1
  · rw [h1]; exact .bot _
  · rw [h1]; exact h.get t

theorem after_rel {d k : Nat} {env' : List AV} : ∀ {i : Nat} {vs : List AV} {K : List AV → Prop}, after d k env' i vs K → ∃ ws, K ws ∧ ws.length = vs.length ∧ ∀ t, ws.getD t .bot = .bot ∨ ws.getD t .bot = env'.getD (i + t) .bot
  | _, [], _, h => ⟨[], h, rfl, fun _ => .inl rfl⟩
  | i, v :: vs, K, h => by
    unfold after at h
    cases hk : k.testBit i <;> simp only [hk, cond_true, cond_false] at h
    · obtain ⟨ws, h1, h2, h3⟩ := after_rel (K := fun ws => K (.bot :: ws)) h
      refine ⟨_, h1, by simp [h2], fun t => ?_⟩
      cases t with
      | zero => exact .inl rfl
      | succ t => rw [show i + (t + 1) = i + 1 + t by omega]; exact h3 t
    · cases hd : d.testBit i <;> simp only [hd, cond_true, cond_false] at h
      · obtain ⟨hb, h⟩ := guardR_iff.1 h
        obtain ⟨ws, h1, h2, h3⟩ := after_rel (K := fun ws => K (v :: ws)) h
        refine ⟨_, h1, by simp [h2], fun t => ?_⟩
        cases t with
        | zero => exact .inr (AV.beq_eq _ _ hb)
        | succ t => rw [show i + (t + 1) = i + 1 + t by omega]; exact h3 t
      · obtain ⟨h, _⟩ := likeV_det h
        obtain ⟨ws, h1, h2, h3⟩ := after_rel (K := fun ws => K (env'.getD i .bot :: ws)) h
        refine ⟨_, h1, by simp [h2], fun t => ?_⟩
        cases t with
        | zero => exact .inr rfl
        | succ t => rw [show i + (t + 1) = i + 1 + t by omega]; exact h3 t

theorem heldX_loop {c : Code} {Q : Exit → Act → World → Prop} {a : Act} {w : World} (h : (!isScope c) = true) : HeldX P c Q a w = LoopX P c Q a w := by
  cases c <;> first | rfl | (simp [isScope] at h)

theorem exec_sound (hmix : P.follows .mixedOrders = true) {C : CallP} {L : LoopP} (hC : CSound P C) (hL : LSound P L) (hcs : CSome C) (hcb : ∀ i B, CBirth i B C C) (hm : MonoC C) (kp : Keep) : ∀ (c : Code) (env : List AV) (h : AH) {K : AEx → List AV → AH → Prop} {σ : Sig} {a : Act} {w : World} {Q : Exit → Act → World → Prop},
    HRel σ h w → EnvRel σ env a → exec P C L kp c env h K → Ways σ h w a K Q → c.wp P Q a w
  | .skip, _, _, _, _, _, _, _, H, he, hh, hQ => wp_skip (hQ _ _ _ _ _ _ hh he (Step.refl H) rfl rfl)
  | .region id ops draw, env, h, K, σ, a, w, Q, H, he, hh, hQ => by
    unfold exec at hh
    cases draw
    · simp only [cond_false] at hh
      refine wp_region ?_
      rw [← plainDI_ok.2]
      exact plain_sound hC hm _ _ _ _ plainDI_ok.1 H he hh fun env' h' σ' a' w' hk he' hs hd hz => hQ _ _ _ _ _ _ hk he' hs hd hz
    · simp only [cond_true] at hh
      split at hh
      · rename_i ds n hcan
        obtain ⟨c1, c2, c3, hR, hsl⟩ := canon_rem hcan
        refine wp_region_any hmix ?_
        have hs0 : Step σ h w σ h { w with drawn := w.drawn + 1 } := Step.drew H rfl rfl rfl rfl
        have hs1 := Step.hold hs0.rel n
        have hs := hs0.trans hs1
        refine any_sound (n := n) hC hcs hcb hm c1 c2 ops.size ds _ [] env _ c3 hR (fun d hd s hsd => ?_) hs.rel (he.mono hs.le) hh fun env' h' σ' a' w' hk he' hs' hd hz => hQ _ _ _ _ _ _ hk he' (hs.trans hs') hd hz
        have := hsl d hd s hsd
        rw [List.getElem?_append_right (by omega)]
        simp [this]
      · exact hh.elim
  | .seq x y, env, h, K, σ, a, w, Q, H, he, hh, hQ => by
    unfold exec at hh
    refine wp_seq (exec_sound hmix hC hL hcs hcb hm kp x env h H he hh fun e env' h' σ' a' w' hk he' hs hd hz => ?_)
    cases e with
    | normal =>
      simp only at hk
      split at hk
      · exact hL _ _ _ _ _ hk _ _ _ _ hs.rel (forget_rel he' _) (hQ.from hs hd hz)
      · exact exec_sound hmix hC hL hcs hcb hm kp y _ h' hs.rel he' hk (hQ.from hs hd hz)
    | exit id => exact hQ _ _ _ _ _ _ hk he' hs hd hz
    | ret => exact hQ _ _ _ _ _ _ hk he' hs hd hz
  | .cond c x y, env, h, K, σ, a, w, Q, H, he, hh, hQ => by
    unfold exec at hh
    obtain ⟨t, ht, hh⟩ := chkBool_iff.1 hh
    have hc := ev_rel he c
    rw [ht] at hc
    refine wp_cond hc.of_bool ?_
    cases t
    · exact exec_sound hmix hC hL hcs hcb hm kp y env h H he hh hQ
    · exact exec_sound hmix hC hL hcs hcb hm kp x env h H he hh hQ
  | .block id c, env, h, K, σ, a, w, Q, H, he, hh, hQ => by
    unfold exec at hh
    refine wp_block (exec_sound hmix hC hL hcs hcb hm kp c env h H he hh fun e env' h' σ' a' w' hk he' hs hd hz => ?_)
    cases e with
    | normal => exact hQ _ _ _ _ _ _ hk he' hs hd hz
    | ret => exact hQ _ _ _ _ _ _ hk he' hs hd hz
    | exit id' =>
      simp only at hk
      show (if id' = id then Q .normal a' w' else Q (.exit id') a' w')
      by_cases hid : id' = id
      · rw [if_pos hid]
        have : (id' == id) = true := by simpa using hid
        rw [this] at hk
        exact hQ _ _ _ _ _ _ hk he' hs hd hz
      · rw [if_neg hid]
        have : (id' == id) = false := by simpa using hid
        rw [this] at hk
        exact hQ _ _ _ _ _ _ hk he' hs hd hz
  | .loop c, env, h, K, σ, a, w, Q, H, he, hh, hQ => LoopX.wp ((heldX_loop (guardR_iff.1 hh).1).mp (hL _ _ _ _ _ (guardR_iff.1 hh).2 _ _ _ _ H (forget_rel he _) fun e env' h' σ' a' w' hk he' hs hd hz => by
      obtain ⟨hk, _⟩ := onExit_det hk
      obtain ⟨ws, hk, hl, hw⟩ := after_rel hk
      refine hQ e ws h' σ' a' w' hk ⟨?_, fun t => ?_⟩ hs hd hz
      · rw [hl, forget_get.1, hz]; exact he.len
      · rcases hw t with h1 | h1
        · rw [h1]; exact .bot _
        · rw [h1]; simpa using he'.get t))
  | .scope c, env, h, K, σ, a, w, Q, H, he, hh, hQ => by
    unfold exec at hh
    refine wp_scope_straight (exec_sound hmix hC hL hcs hcb hm kp c env h H he hh fun e env' h' σ' a' w' hk he' hs hd hz => ?_)
    have := hQ e env' h' σ' a' w' hk he' hs hd hz
    cases e <;> exact this
  | .exit id, _, _, _, _, _, _, _, H, he, hh, hQ => wp_exit (hQ _ _ _ _ _ _ hh he (Step.refl H) rfl rfl)
  | .label _, _, _, _, _, _, _, _, H, he, hh, hQ => wp_label (hQ _ _ _ _ _ _ hh he (Step.refl H) rfl rfl)
  | .ret, _, _, _, _, _, _, _, H, he, hh, hQ => wp_ret (hQ _ _ _ _ _ _ hh he (Step.refl H) rfl rfl)
  | .rangeFunc .., _, _, _, _, _, _, _, _, _, hh, _ => hh.elim
  | .goto _, _, _, _, _, _, _, _, _, _, hh, _ => hh.elim
  | .refuse _, _, _, _, _, _, _, _, _, _, hh, _ => hh.elim

theorem lstep_sound (hmix : P.follows .mixedOrders = true) {C : CallP} {L : LoopP} (hC : CSound P C) (hL : LSound P L) (hcs : CSome C) (hcb : ∀ i B, CBirth i B C C) (hm : MonoC C) {kp : Keep} {c : Code} {env : List AV} {h : AH} {K : AEx → List AV → AH → Prop} (hh : lstep P C L kp c env h K)
    {σ : Sig} {a : Act} {w : World} {Q : Exit → Act → World → Prop} (H : HRel σ h w) (he : EnvRel σ env a) (hQ : Ways σ h w a K Q) : HeldX P c Q a w := by
  unfold lstep at hh
  split at hh
  · exact exec_sound hmix hC hL hcs hcb hm kp _ env h H he hh hQ
  · rename_i hns
    have hns : (!isScope c) = true := by cases c <;> first | rfl | exact (hns _ rfl).elim
    rw [heldX_loop hns]
    refine LoopX.step (exec_sound hmix hC hL hcs hcb hm kp c env h H he hh fun e env' h' σ' a' w' hk he' hs hd hz => ?_)
    cases e with
    | normal => exact (heldX_loop hns).mp (hL _ _ _ _ _ hk _ _ _ _ hs.rel (forget_rel he' _) (hQ.from hs hd hz))
    | exit id => exact hQ _ _ _ _ _ _ hk he' hs hd hz
    | ret => exact hQ _ _ _ _ _ _ hk he' hs hd hz

theorem aResults_sound {env : List AV} {h : AH} {σ : Sig} {a : Act} {w : World} (H : HRel σ h w) (he : EnvRel σ env a) : ∀ (l : List ResultVar) {K : List AV → Prop}, aResults P env h l K →
    ∃ vs us, K vs ∧ VRels σ vs us ∧ ((l.mapM (fun (x : ResultVar) => (match x with | .tmp t => pure (a.tmps.getD t undef) | .cell x t => do loadVar t (← asAddr (a.tmps.getD x undef)) : Sem Value))).run P w = .ok us w)
  | [], K, hh => ⟨[], [], hh, trivial, rfl⟩
  | .tmp t :: l, K, hh => by
    obtain ⟨vs, us, hk, hr, hrun⟩ := aResults_sound H he l (K := fun vs => K (env.getD t .bot :: vs)) hh
    refine ⟨env.getD t .bot :: vs, a.tmps.getD t undef :: us, hk, ⟨he.get t, hr⟩, ?_⟩
    simp only [List.mapM_cons, Sem.run_bind, Sem.run_pure, Result.andThen_ok, hrun]
  | .cell x t :: l, K, hh => by
    unfold aResults at hh
    rw [chkPtr_ob] at hh
    split at hh
    · rename_i p hp
      obtain ⟨i, o⟩ := p
      have hx := he.get x
      rw [hp] at hx
      obtain ⟨ad, hb, hab⟩ := hx.of_ptr
      obtain ⟨hok, hh⟩ := guardR_iff.1 hh
      obtain ⟨ti, z, hi, hz, hh⟩ := zeroOf_iff.1 hh
      obtain ⟨v, u, hk, hr, hrun⟩ := loadVar_sound (P := P) (t := t) H hab hok (K := fun v => aResults P env h l fun vs => K (v :: vs)) hh
      obtain ⟨vs, us, hk, hrs, hruns⟩ := aResults_sound H he l hk
      refine ⟨v :: vs, u :: us, hk, ⟨hr, hrs⟩, ?_⟩
      have hadr : asAddr (a.tmps.getD x undef) = pure ad := by rw [hb]; rfl
      simp only [List.mapM_cons, Sem.run_bind, Sem.run_pure, Result.andThen_ok, hadr, hrun, hruns]
    · exact hh.elim

theorem results_sound {fn : Func} {env : List AV} {h : AH} {σ : Sig} {a : Act} {w : World} (H : HRel σ h w) (he : EnvRel σ env a) {K : AV → Prop} (hh : aResults P env h fn.results.toList fun vs => K (tupOf vs)) :
    ∃ v u, K v ∧ VRel σ v u ∧ (results fn a.tmps).run P w = .ok u w := by
  obtain ⟨vs, us, hk, hr, hrun⟩ := aResults_sound (P := P) H he fn.results.toList hh
  have hru : (results fn a.tmps).run P w = .ok (if h : us.toArray.size = 1 then us.toArray[0] else .tuple us.toArray) w := by
    unfold results
    rw [Array.mapM_eq_mapM_toList]
    simp only [Sem.run_bind, Sem.run_map, Sem.run_pure]
    have key : ∀ r, r = Result.ok us w → ((r.andThen fun a w' => Result.ok a.toArray w').andThen fun a w' => Result.ok (if h : a.size = 1 then a[0] else Value.tuple a) w') = Result.ok (if h : us.toArray.size = 1 then us.toArray[0] else Value.tuple us.toArray) w := by
      rintro _ rfl; rfl
    exact key _ hrun
  match vs, us, hr, hk, hru with
  | [], [], hr, hk, hru => exact ⟨_, _, hk, VRel.tup_iff.2 ⟨#[], rfl, trivial⟩, hru⟩
  | [v], [u], hr, hk, hru => exact ⟨_, _, hk, hr.1, hru⟩
  | v1 :: v2 :: vs, u1 :: u2 :: us, hr, hk, hru =>
    refine ⟨_, _, hk, VRel.tup_iff.2 ⟨_, rfl, ?_⟩, by rw [hru, dif_neg (by simp)]⟩
    exact hr
  | [], _ :: _, hr, _, _ => exact hr.elim
  | _ :: _, [], hr, _, _ => exact hr.elim
  | [_], _ :: _ :: _, hr, _, _ => exact hr.2.elim
  | _ :: _ :: _, [_], hr, _, _ => exact hr.2.elim

theorem getD_append_bot {as : List AV} {n t : Nat} : (as ++ List.replicate n AV.bot).getD t AV.bot = as.getD t AV.bot := by
  simp only [List.getD_eq_getElem?_getD]
  by_cases h : t < as.length
  · rw [List.getElem?_append_left h]
  · rw [List.getElem?_append_right (by omega), List.getElem?_eq_none (by omega : as.length ≤ t), List.getElem?_replicate]
    split <;> rfl

theorem fstep_sound (hmix : P.follows .mixedOrders = true) {C : CallP} {L : LoopP} (hC : CSound P C) (hL : LSound P L) (hcs : CSome C) (hcb : ∀ i B, CBirth i B C C) (hm : MonoC C) {f : FuncId} {args : List AV} {h : AH} {K : AV → AH → Prop} (hh : fstep P C L M f args h K)
    {σ : Sig} {w : World} {cargs : Array Value} (H : HRel σ h w) (ha : VRels σ args cargs.toList) :
    (∃ fn c, P.funcs[f]? = some fn ∧ fn.body = some c ∧ fn.name ≠ "runtime.NumGoroutine") ∧ Calls P f cargs w (Post σ h w K) := by
  unfold fstep at hh
  obtain ⟨fn, hfn, hh⟩ := ob_iff.1 hh
  obtain ⟨c, hc, hh⟩ := ob_iff.1 hh
  obtain ⟨hn, hh⟩ := guardR_iff.1 hh
  refine ⟨⟨fn, c, hfn, hc, by simpa using hn⟩, calls_of_wp hfn hc ?_⟩
  have hlen := ha.length
  simp only [Array.length_toList] at hlen
  have henv : EnvRel σ (args ++ List.replicate (fn.ntmps - args.length) .bot) { tmps := cargs ++ Array.replicate (fn.ntmps - cargs.size) undef, defers := [] } := by
    refine ⟨by simp [hlen], fun t => ?_⟩
    rw [getD_append_bot]
    by_cases ht : t < args.length
    · obtain ⟨u, hu, hr⟩ := ha.get t args[t] (by simp [ht])
      rw [Array.getElem?_toList] at hu
      have hlt : t < cargs.size := by omega
      have e1 : args.getD t .bot = args[t] := by simp [ht]
      have e2 : (cargs ++ Array.replicate (fn.ntmps - cargs.size) undef).getD t undef = u := by
        rw [Array.getD_eq_getD_getElem?, Array.getElem?_append_left hlt, hu]; rfl
      show VRel σ (args.getD t .bot) ((cargs ++ Array.replicate (fn.ntmps - cargs.size) undef).getD t undef)
      rw [e1, e2]; exact hr
    · have : args.getD t .bot = .bot := by simp [List.getElem?_eq_none (by omega : args.length ≤ t)]
      rw [this]; exact .bot _
  refine exec_sound hmix hC hL hcs hcb hm _ c _ h H henv hh fun e env' h' σ' a' w' hk he' hs hd hz => ?_
  cases e with
  | exit id => exact hk.elim
  | normal =>
    obtain ⟨v, u, hk, hr, hrun⟩ := results_sound hs.rel he' (K := fun v => K v h') hk
    exact ⟨hd, u, hrun, v, σ', h', u, rfl, hr, hs, hk⟩
  | ret =>
    obtain ⟨v, u, hk, hr, hrun⟩ := results_sound hs.rel he' (K := fun v => K v h') hk
    exact ⟨hd, u, hrun, v, σ', h', u, rfl, hr, hs, hk⟩

def births : List (Nat × ABlk) → AH → AH
  | [], h => h
  | (i, B) :: bs, h => births bs (h.set i B)

def Unb : List (Nat × ABlk) → AH → Prop
  | [], _ => True
  | (i, B) :: bs, h => h[i]? = some .unborn ∧ Unb bs (h.set i B)

def BPs : List (Nat × ABlk) → (AH → Prop) → AH → Prop
  | [], K => K
  | (i, B) :: bs, K => BPs bs (BP i B K)

theorem BPs.mono : ∀ (bs : List (Nat × ABlk)) {K K' : AH → Prop} {h : AH}, (∀ h, K h → K' h) → BPs bs K h → BPs bs K' h
  | [], _, _, _, hk, hh => hk _ hh
  | (_, _) :: bs, _, _, _, hk, hh => BPs.mono bs (fun _ hb => BP.mono hk hb) hh

theorem fstep_births {C : CallP} {L : LoopP} (hc : ∀ i B, CBirth i B C C) (hl : ∀ i B, LBirth i B L L) (hm : MonoC C) (hml : MonoL L) {f : FuncId} {args : List AV} : ∀ (bs : List (Nat × ABlk)) {h : AH} {K : AV → AH → Prop}, Unb bs h →
    fstep P C L M f args h K → fstep P C L M f args (births bs h) fun v h' => BPs bs (K v) h'
  | [], _, _, _, hh => hh
  | (i, B) :: bs, _, _, hu, hh => fstep_births hc hl hm hml bs hu.2 (fstep_birth (hc i B) (hl i B) hm hml hu.1 hh)

theorem lstep_births {C : CallP} {L : LoopP} (hc : ∀ i B, CBirth i B C C) (hl : ∀ i B, LBirth i B L L) (hm : MonoC C) (hml : MonoL L) {kp : Keep} {c : Code} {env : List AV} : ∀ (bs : List (Nat × ABlk)) {h : AH} {K : AEx → List AV → AH → Prop}, Unb bs h →
    lstep P C L kp c env h K → lstep P C L kp c env (births bs h) fun e env h' => BPs bs (K e env) h'
  | [], _, _, _, hh => hh
  | (i, B) :: bs, _, _, hu, hh => lstep_births hc hl hm hml bs hu.2 (lstep_birth (hc i B) (hl i B) hm hml hu.1 hh)

theorem Post.mono {σ : Sig} {h : AH} {w : World} {K K' : AV → AH → Prop} (hk : ∀ v h', K v h' → K' v h') {e : Ending} {w' : World} (hp : Post σ h w K e w') : Post σ h w K' e w' := by
  obtain ⟨v, σ', h', u, h1, h2, h3, h4⟩ := hp
  exact ⟨v, σ', h', u, h1, h2, h3, hk _ _ h4⟩

/-- WHAT THE ABSTRACT MACHINE SAYS OF A CALL HOLDS OF THE MODEL. -/
theorem sound (hmix : P.follows .mixedOrders = true) : CSound P (ACall P M) := by
  let C : CallP := fun f args h K => ACall P M f args h K ∧ ∀ bs, Unb bs h → ∀ σ w (cargs : Array Value), HRel σ (births bs h) w → VRels σ args cargs.toList →
    (∃ fn c, P.funcs[f]? = some fn ∧ fn.body = some c ∧ fn.name ≠ "runtime.NumGoroutine") ∧ Calls P f cargs w (Post σ (births bs h) w fun v h' => BPs bs (K v) h')
  let L : LoopP := fun kp c env h K => ALoop P M kp c env h K ∧ ∀ bs, Unb bs h → ∀ σ a w Q, HRel σ (births bs h) w → EnvRel σ env a → Ways σ (births bs h) w a (fun e env h' => BPs bs (K e env) h') Q → HeldX P c Q a w
  have hmc : MonoC C := ⟨fun f args h K K' hk hh => ⟨ACall.mono.mono _ _ _ _ _ hk hh.1, fun bs hu σ w cargs H ha => by
    obtain ⟨h1, h2⟩ := hh.2 bs hu σ w cargs H ha
    exact ⟨h1, h2.mono fun e w' hp => hp.mono fun v h' hb => BPs.mono bs (fun _ h => hk _ _ h) hb⟩⟩⟩
  have hml : MonoL L := ⟨fun kp c env h K K' hk hh => ⟨ALoop.mono.mono _ _ _ _ _ _ hk hh.1, fun bs hu σ a w Q H he hq => hh.2 bs hu σ a w Q H he fun e env' h' σ' a' w' hb => hq e env' h' σ' a' w' (BPs.mono bs (fun _ h => hk _ _ _ h) hb)⟩⟩
  have hcs : CSome C := fun f args h K hh => some_both.1 _ _ _ _ hh.1
  have hcb : ∀ i B, CBirth i B C C := fun i B f args h K hi hh => ⟨birth_both.1 i B _ _ _ _ hi hh.1, fun bs hu => hh.2 ((i, B) :: bs) ⟨hi, hu⟩⟩
  have hlb : ∀ i B, LBirth i B L L := fun i B kp c env h K hi hh => ⟨birth_both.2 i B _ _ _ _ _ hi hh.1, fun bs hu => hh.2 ((i, B) :: bs) ⟨hi, hu⟩⟩
  have hC : CSound P C := fun f args h K hh => hh.2 [] trivial
  have hL : LSound P L := fun kp c env h K hh => hh.2 [] trivial
  have hcl : ClosedP P M C L := by
    refine ⟨hmc, hml, fun f args h K hh => ⟨ACall.fold (fstep_mono (fun _ _ _ _ h => h.1) (fun _ _ _ _ _ h => h.1) ACall.mono ALoop.mono (fun _ _ h => h) hh), fun bs hu σ w cargs H ha => ?_⟩,
      fun kp c env h K hh => ⟨ALoop.fold (lstep_mono (fun _ _ _ _ h => h.1) (fun _ _ _ _ _ h => h.1) ACall.mono ALoop.mono (fun _ _ _ h => h) hh), fun bs hu σ a w Q H he hq => ?_⟩⟩
    · exact fstep_sound hmix hC hL hcs hcb hmc (fstep_births hcb hlb hmc hml bs hu hh) H ha
    · exact lstep_sound hmix hC hL hcs hcb hmc (lstep_births hcb hlb hmc hml bs hu hh) H he hq
  exact fun f args h K hh => hC f args h K (hh C L hcl)

end
end Go.Abs
