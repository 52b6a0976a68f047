/- What the abstract machine says of regions, of code, of calls holds of the model's, on every tape. -/
import Derived.Test.YtdpecfeofcibhaaA15
namespace Go.Abs
section
variable {P : Program}

/-- What a call comes to, in the world. -/
def Post (σ : Sig) (h : AH) (w : World) (K : AV → AH → Prop) : Ending → World → Prop := fun e w' => ∃ v σ' h' u, e = .returned u ∧ VRel σ' v u ∧ Step σ h w σ' h' w' ∧ K v h'

def CSound (P : Program) (C : CallP) : Prop := ∀ f args h K, C f args h K → ∀ σ w (cargs : Array Value), HRel σ h w → VRels σ args cargs.toList →
  (∃ fn c, P.funcs[f]? = some fn ∧ fn.body = some c ∧ fn.name ≠ "runtime.NumGoroutine") ∧ Calls P f cargs w (Post σ h w K)

/-- One operation. -/
theorem op_sound {C : CallP} (hC : CSound P C) {o : Oper} {slot : Option Nat} {env : List AV} {h : AH} {K : Req → AV → AH → Prop} {σ : Sig} {a : Act} {w : World} {Q : Exit → Act → World → Prop} {X : Act → World → Prop}
    (H : HRel σ h w) (he : EnvRel σ env a) (hh : aOp P C o slot env h K)
    (hX : ∀ q v h' σ' u w', K q v h' → VRel σ' v u → Step σ h w σ' h' w' → X (a.put o.dst u) w') : o.wp P a w X Q := by
  unfold Oper.wp
  unfold aOp at hh
  split at hh
  · obtain ⟨v, u, hk, hr, hrun⟩ := pure_sound (P := P) (w := w) he hh
    rw [hrun, Oper.upon_value]
    exact hX _ _ _ _ _ _ hk hr (Step.refl H)
  · obtain ⟨q, v, u, hk, hr, hrun⟩ := read_sound H he hh
    rw [hrun, Oper.upon_value]
    exact hX _ _ _ _ _ _ hk hr (Step.refl H)
  · obtain ⟨B, f, u, w', hk, hm, hrun⟩ := alloc_sound (P := P) (w := w) he hh
    rw [hrun, Oper.upon_value]
    split at hk
    · obtain ⟨σ', hs, hr⟩ := hm.push H
      exact hX _ _ _ _ _ _ hk hr hs
    · split at hk
      · rename_i hu
        obtain ⟨σ', hs, hr⟩ := hm.born H hu
        exact hX _ _ _ _ _ _ hk hr hs
      · exact hk.elim
  · by_cases hcall : ∃ c f, o.op = .call c ∧ c.callee = .value f
    · obtain ⟨c, f, ho, hf⟩ := hcall
      unfold aEff at hh
      simp only [ho, hf] at hh
      have hfr := ev_rel he f
      split at hh
      · rename_i g as cs hev
        rw [hev] at hfr
        obtain ⟨bs, ds, hfv, hbs, hds⟩ := VRel.fn_iff.1 hfr
        have hargs := evs_rel_arr he c.args
        have hall : VRels σ (as ++ c.args.toList.map (ev env) ++ cs) (bs ++ c.args.map a.eval ++ ds).toList := by
          rw [Array.toList_append, Array.toList_append]
          exact (hbs.append hargs).append hds
        obtain ⟨⟨fn, cd, h1, h2, h3⟩, hcalls⟩ := hC _ _ _ _ hh σ w _ H hall
        have hrun : (execOp a.eval o).run P w = .ok (.enter g (bs ++ c.args.map a.eval ++ ds)) w := by
          have hn : (fn.name == "runtime.NumGoroutine") = false := by simpa using h3
          simp [execOp, ho, resolve, hf, hfv, Deferred.ofValue, invoke, callFunc, h1, h2]
          exact h3
        rw [hrun, Oper.upon_enter]
        refine hcalls.mono fun e w' hp => ?_
        obtain ⟨v, σ', h', u, rfl, hr, hs, hk⟩ := hp
        exact hX _ _ _ _ _ _ (chkT_imp hk) hr hs
      · exact hh.elim
    · obtain ⟨v, h', u, σ', w', hk, hr, hs, hrun⟩ := eff_sound H he hh (fun c f h1 h2 => hcall ⟨c, f, h1, h2⟩)
      rcases hrun with hrun | ⟨hrun, rfl⟩
      · rw [hrun, Oper.upon_value]; exact hX _ _ _ _ _ _ hk hr hs
      · rw [hrun, Oper.upon_skip]; exact hX _ _ _ _ _ _ hk hr hs

/-- An operation that is or is not carried out. -/
theorem wanted_sound {ops : Array Oper} {o : Oper} {env : List AV} {K : Bool → Prop} {σ : Sig} {a : Act} (he : EnvRel σ env a) (hh : wantedE ops.toList o env K) : K (Region.wanted o (yielded ops a.tmps)) := by
  unfold wantedE at hh
  unfold Region.wanted
  split at hh
  · rename_i hg; rw [hg]; exact hh
  · rename_i g w hg
    rw [hg]
    simp only
    rw [Array.getElem?_toList] at hh
    split at hh
    · rename_i d hd
      have hr := he.get d
      have hy : yielded ops a.tmps g = (match a.tmps[d]? with | some (.bool b) => some b | _ => none) := by
        unfold yielded
        rw [hd]; rfl
      rw [hy]
      split at hh
      · rename_i b hb
        rw [hb] at hr
        have hv := hr.of_bool
        have hgt : a.tmps[d]? = some (.bool b) := by
          rw [Array.getD_eq_getD_getElem?] at hv
          cases hx : a.tmps[d]? with
          | none => rw [hx] at hv; simp [undef] at hv
          | some x => rw [hx] at hv; simp at hv; rw [hv]
        rw [hgt]
        simpa using hh
      · rename_i hb
        rw [hb] at hr
        obtain ⟨bs, hv, hbs⟩ := VRel.tup_iff.1 hr
        have hnb : (match a.tmps[d]? with | some (.bool b) => some b | _ => none) = none := by
          rw [Array.getD_eq_getD_getElem?] at hv
          cases hx : a.tmps[d]? with
          | none => rfl
          | some x => rw [hx] at hv; simp at hv; rw [hv]
        rw [hnb]
        simpa using hh
      · exact hh.elim
    · rename_i hd
      have hy : yielded ops a.tmps g = none := by
        unfold yielded; rw [hd]; rfl
      rw [hy]
      simpa using hh

theorem undef_rel {σ : Sig} : VRel σ (.tup []) undef := VRel.tup_iff.2 ⟨#[], rfl, trivial⟩

/-- A step, at the world's one operation. -/
theorem st_sound {C : CallP} (hC : CSound P C) {ops : Array Oper} {base : Nat} {d : DI} {pd : List (Nat × Req)} {env : List AV} {h : AH} {K : List (Nat × Req) → List AV → AH → Prop} {σ : Sig} {a : Act} {w : World} {Q : Exit → Act → World → Prop} {X : Act → World → Prop}
    (ho : ops[d.i]? = some d.o) (H : HRel σ h w) (he : EnvRel σ env a) (hh : st P C ops base d pd env h K)
    (hX : ∀ pd' env' h' σ' a' w', K pd' env' h' → EnvRel σ' env' a' → Step σ h w σ' h' w' → a'.defers = a.defers → a'.tmps.size = a.tmps.size → X a' w') : wpOp P ops Q d.i X a w := by
  have hput : ∀ (dst : Option Tmp) u, (a.put dst u).defers = a.defers ∧ (a.put dst u).tmps.size = a.tmps.size := by
    intro dst u; cases dst <;> simp [Act.put]
  unfold st at hh
  have hw := wanted_sound he hh
  unfold wpOp
  rw [ho]
  simp only
  cases ht : Region.wanted d.o (yielded ops a.tmps)
  · rw [ht] at hw
    simp only [Bool.false_eq_true, if_false]
    exact hX _ _ _ σ _ _ hw (he.put _ undef_rel) (Step.refl H) (hput _ _).1 (hput _ _).2
  · rw [ht] at hw
    simp only [if_true]
    simp only [cond_true] at hw
    refine .inl (op_sound hC H he hw fun q v h' σ' u w' hk hr hs => ?_)
    exact hX _ _ _ σ' _ _ hk.2 ((he.mono hs.le).put _ hr) hs (hput _ _).1 (hput _ _).2

/-! ## A region in the order of its text -/

theorem plain_sound {C : CallP} (hC : CSound P C) (hm : MonoC C) {ops : Array Oper} {Q : Exit → Act → World → Prop} : ∀ (l : List DI) (pd : List (Nat × Req)) (env : List AV) (h : AH) {K : List AV → AH → Prop} {σ : Sig} {a : Act} {w : World},
    (∀ d ∈ l, ops[d.i]? = some d.o) → HRel σ h w → EnvRel σ env a → runD P C ops.toList 0 l pd env h K →
    (∀ env' h' σ' a' w', K env' h' → EnvRel σ' env' a' → Step σ h w σ' h' w' → a'.defers = a.defers → a'.tmps.size = a.tmps.size → Q .normal a' w') → wpOps P ops Q (l.map (·.i)) a w
  | [], pd, env, h, K, σ, a, w, _, H, he, hh, hQ => hQ _ _ _ _ _ hh he (Step.refl H) rfl rfl
  | d :: l, pd, env, h, K, σ, a, w, hl, H, he, hh, hQ => by
    rw [List.map_cons, wpOps_cons]
    refine st_sound hC (hl d (by simp)) H he ((runD_cons hm).1 hh) fun pd' env' h' σ' a' w' hk he' hs hd hsz => ?_
    exact plain_sound hC hm l pd' env' h' (fun d hd => hl d (by simp [hd])) hs.rel he' hk fun env'' h'' σ'' a'' w'' hk' he'' hs' hd' hsz' => hQ _ _ _ _ _ hk' he'' (hs.trans hs') (hd'.trans hd) (hsz'.trans hsz)

theorem plainDI_ok {ops : Array Oper} : (∀ d ∈ plainDI ops.toList, ops[d.i]? = some d.o) ∧ (plainDI ops.toList).map (·.i) = List.range ops.size := by
  constructor
  · intro d hd
    simp only [plainDI, List.mem_map] at hd
    obtain ⟨⟨o, i⟩, hx, rfl⟩ := hd
    have := List.mem_zipIdx_iff_getElem?.1 hx
    simpa using this
  · simp only [plainDI, List.map_map]
    apply List.ext_getElem?
    intro i
    simp only [List.getElem?_map, List.getElem?_zipIdx]
    by_cases hi : i < ops.size
    · simp [hi]
    · simp [hi]

/-! ## A region whose order is open -/

theorem set_same {h : AH} {i : Nat} {x : ABlk} (hi : h[i]? = some x) : h.set i x = h := by
  obtain ⟨hlt, heq⟩ := List.getElem?_eq_some_iff.1 hi
  rw [← heq]; exact List.set_getElem_self hlt

theorem aOp_keeps {C : CallP} (hcb : ∀ i B, CBirth i B C C) (hm : MonoC C) {o : Oper} {slot : Option Nat} {env : List AV} {h : AH} {K : Req → AV → AH → Prop} {i : Nat} (hi : h[i]? = some .unborn) (hs : ∀ s, slot = some s → s ≠ i)
    (hh : aOp P C o slot env h K) : aOp P C o slot env h fun q v h' => K q v h' ∧ h'[i]? = some .unborn := by
  have := aOp_birth (B := .unborn) (hcb i .unborn) hm hi hs hh
  rw [set_same hi] at this
  refine aOp_mono (fun _ _ _ _ h => h) hm (fun q v h' hb => ?_) this
  obtain ⟨h0, h1, rfl, h3⟩ := hb
  rw [set_same h1]; exact ⟨h3, h1⟩

theorem st_mono {C : CallP} (hm : MonoC C) {ops : Array Oper} {base : Nat} {d : DI} {pd : List (Nat × Req)} {env : List AV} {h : AH} {K K' : List (Nat × Req) → List AV → AH → Prop} (hk : ∀ p e h, K p e h → K' p e h)
    (hh : st P C ops base d pd env h K) : st P C ops base d pd env h K' := by
  unfold st at hh ⊢
  obtain ⟨t, ht⟩ := wantedE_det hh
  rw [ht] at hh ⊢
  cases t
  · exact hk _ _ _ hh
  · simp only [cond_true] at hh ⊢
    exact aOp_mono (fun _ _ _ _ h => h) hm (fun q v h' hh => ⟨hh.1, hk _ _ _ hh.2⟩) hh

theorem st_keeps {C : CallP} (hcb : ∀ i B, CBirth i B C C) (hm : MonoC C) {ops : Array Oper} {base : Nat} {d : DI} {pd : List (Nat × Req)} {env : List AV} {h : AH} {K : List (Nat × Req) → List AV → AH → Prop} {i : Nat} (hi : h[i]? = some .unborn)
    (hs : ∀ s, d.slot = some s → base + s ≠ i) (hh : st P C ops base d pd env h K) : st P C ops base d pd env h fun pd env h' => K pd env h' ∧ h'[i]? = some .unborn := by
  unfold st at hh ⊢
  obtain ⟨t, ht⟩ := wantedE_det hh
  rw [ht] at hh ⊢
  cases t
  · exact ⟨hh, hi⟩
  · simp only [cond_true] at hh ⊢
    refine aOp_mono (fun _ _ _ _ h => h) hm (fun q v h' hh => ⟨hh.1.1, hh.1.2, hh.2⟩) (aOp_keeps hcb hm hi ?_ hh)
    intro s h1
    cases hd : d.slot with
    | none => rw [hd] at h1; cases h1
    | some s0 => rw [hd] at h1; simp at h1; subst h1; exact hs s0 hd

theorem front {C : CallP} (hcs : CSome C) (hcb : ∀ i B, CBirth i B C C) (hm : MonoC C) {ops : Array Oper} {base : Nat} {y : DI} {l2 : List DI} : ∀ (l1 : List DI), (∀ x ∈ l1, Sw P base x y ∧ Oper.apart ops x.o y.o = true) →
    ∀ {pd : List (Nat × Req)} {env : List AV} {h : AH} {K : List AV → AH → Prop}, (∀ s, y.slot = some s → h[base + s]? = some .unborn) →
    runD P C ops.toList base (l1 ++ y :: l2) pd env h K → runD P C ops.toList base (y :: (l1 ++ l2)) pd env h K
  | [], _, _, _, _, _, _, hh => hh
  | x :: l1, hl, pd, env, h, K, hun, hh => by
    obtain ⟨hsw, hap⟩ := hl x (by simp)
    refine swap_st hcs hcb hm hsw hap hun ?_
    rw [List.cons_append, runD_cons hm] at hh
    rw [runD_cons hm]
    cases hy : y.slot with
    | none => exact st_mono hm (fun p e h' hh => front hcs hcb hm l1 (fun x hx => hl x (by simp [hx])) (fun s hs => by rw [hy] at hs; cases hs) hh) hh
    | some s =>
      refine st_mono hm (fun p e h' hh => front hcs hcb hm l1 (fun x hx => hl x (by simp [hx])) (fun s' hs' => ?_) hh.1) (st_keeps hcb hm (hun s hy) (fun s' hs' => ?_) hh)
      · rw [hy] at hs'; cases hs'; exact hh.2
      · intro he
        have : s' = s := by omega
        subst this
        exact hsw.ne s' hs' hy

/-- What is still to be carried out. -/
structure Rem (P : Program) (ops : Array Oper) (bef : Array Nat) (n : Nat) (l : List DI) (listed : Array Bool) : Prop where
  size : listed.size = ops.size
  op : ∀ d ∈ l, ops[d.i]? = some d.o
  out : ∀ d ∈ l, listed[d.i]? = some false
  cov : ∀ i, i < ops.size → listed[i]? = some true ∨ ∃ d ∈ l, d.i = i
  down : ∀ j : Nat, listed[j]? = some true → ∀ e ∈ (ops.getD j default).after.toList, Region.binds .any e = true → listed[e.on]? = some true
  pw : l.Pairwise fun x y => pairOk P ops bef x y = true
  di : ∀ d ∈ l, diOk P ops n d = true

theorem bef_listed {ops : Array Oper} {bef : Array Nat} (h1 : befOk ops bef = true) (h2 : befChain ops bef = true) {listed : Array Bool} (hdown : ∀ j : Nat, listed[j]? = some true → ∀ e ∈ (ops.getD j default).after.toList, Region.binds .any e = true → listed[e.on]? = some true) :
    ∀ (j : Nat), j < ops.size → (∀ e ∈ (ops.getD j default).after.toList, Region.binds .any e = true → listed[e.on]? = some true) → ∀ x, x < ops.size → (bef.getD j 0).testBit x = true → listed[x]? = some true := by
  intro j
  induction j using Nat.strongRecOn with
  | _ j ih =>
    intro hj hd x hx hb
    unfold befChain at h2
    have h3 := List.all_eq_true.1 (List.all_eq_true.1 h2 j (by simpa using hj)) x (by simpa using hx)
    rw [hb] at h3
    simp only [Bool.not_true, Bool.false_or, List.any_eq_true, Bool.and_eq_true, Bool.or_eq_true, beq_iff_eq] at h3
    obtain ⟨e, he, hbi, hor⟩ := h3
    have hel := hd e he hbi
    rcases hor with rfl | hor
    · exact hel
    · unfold befOk at h1
      have h4 := List.all_eq_true.1 (List.all_eq_true.1 h1 j (by simpa using hj)) e he
      rw [hbi] at h4
      simp only [Bool.not_true, Bool.false_or, Bool.and_eq_true, decide_eq_true_eq] at h4
      exact ih e.on h4.1 (by omega) (hdown _ hel) x hx hor

theorem sw_of {ops : Array Oper} {bef : Array Nat} {n base : Nat} {x y : DI} (hp : pairOk P ops bef x y = true) (hx : diOk P ops n x = true) (hy : diOk P ops n y = true) (hno : (bef.getD y.i 0).testBit x.i = false) : Sw P base x y ∧ Oper.apart ops x.o y.o = true := by
  unfold pairOk at hp
  unfold diOk at hx hy
  rw [hno] at hp
  simp only [Bool.false_or, Bool.and_eq_true, bne_iff_ne, ne_eq, Bool.not_eq_true', Bool.and_eq_false_iff, Bool.or_eq_true, Bool.not_eq_eq_eq_not, Bool.not_true, beq_iff_eq, beq_eq_false_iff_ne, decide_eq_true_eq] at hp hx hy
  obtain ⟨⟨⟨hne, _⟩, hsl⟩, ⟨hap, hco⟩, hre⟩ := hp
  refine ⟨⟨hco, fun h1 h2 => ?_, fun h1 => ?_, fun h1 => ?_, fun h1 => ?_, fun h1 => ?_, fun s h1 h2 => ?_⟩, hap⟩
  · rcases hre with hre | hre
    · rcases hre with hre | hre
      · exact absurd h1 (by simpa using hre)
      · exact absurd h2 (by simpa using hre)
    · simpa using hre
  · rcases hx.1.1.2 with h | h
    · exact absurd h h1
    · simpa using h
  · rcases hy.1.1.2 with h | h
    · exact absurd h h1
    · simpa using h
  · rcases hx.1.2 with h | h
    · exact absurd h1 (by simpa using h)
    · exact Option.isSome_iff_exists.1 h
  · rcases hy.1.2 with h | h
    · exact absurd h1 (by simpa using h)
    · exact Option.isSome_iff_exists.1 h
  · rw [h1, h2] at hsl
    simp at hsl

theorem any_sound {C : CallP} (hC : CSound P C) (hcs : CSome C) (hcb : ∀ i B, CBirth i B C C) (hm : MonoC C) {ops : Array Oper} {bef : Array Nat} {n base : Nat} (hb1 : befOk ops bef = true) (hb2 : befChain ops bef = true) {Q : Exit → Act → World → Prop} :
    ∀ (k : Nat) (l : List DI) (listed : Array Bool) (pd : List (Nat × Req)) (env : List AV) (h : AH) {K : List AV → AH → Prop} {σ : Sig} {a : Act} {w : World}, l.length = k → Rem P ops bef n l listed → (∀ d ∈ l, ∀ s, d.slot = some s → h[base + s]? = some .unborn) →
    HRel σ h w → EnvRel σ env a → runD P C ops.toList base l pd env h K →
    (∀ env' h' σ' a' w', K env' h' → EnvRel σ' env' a' → Step σ h w σ' h' w' → a'.defers = a.defers → a'.tmps.size = a.tmps.size → Q .normal a' w') → wpAny P .any ops Q k listed a w
  | 0, l, listed, pd, env, h, K, σ, a, w, hl, hR, hun, H, he, hh, hQ => by
    have hnil : l = [] := List.eq_nil_of_length_eq_zero hl
    subst hnil
    refine ⟨?_, hQ _ _ _ _ _ hh he (Step.refl H) rfl rfl⟩
    unfold Region.ready
    rw [List.filter_eq_nil_iff]
    intro i hi
    have hi : i < ops.size := by simpa using hi
    rcases hR.cov i hi with h1 | ⟨d, hd, _⟩
    · simp [Array.getD_eq_getD_getElem?, h1]
    · cases hd
  | k + 1, l, listed, pd, env, h, K, σ, a, w, hl, hR, hun, H, he, hh, hQ => by
    constructor
    · intro hemp
      exfalso
      cases l with
      | nil => simp at hl
      | cons d l =>
        have hdi := hR.di d (by simp)
        have hdlt : d.i < ops.size := by
          unfold diOk at hdi
          simp only [Bool.and_eq_true, decide_eq_true_eq] at hdi
          exact hdi.1.1.1
        have hop := hR.op d (by simp)
        have hmem : d.i ∈ Region.ready .any ops listed := by
          unfold Region.ready
          rw [List.mem_filter]
          refine ⟨by simpa using hdlt, ?_⟩
          have hout := hR.out d (by simp)
          simp only [Array.getD_eq_getD_getElem?, hout, hop, Option.map_some, Option.getD_some, Bool.not_false, Bool.true_and]
          rw [← Array.all_toList, List.all_eq_true]
          intro e hee
          have hgd : ops.getD d.i default = d.o := by simp [Array.getD_eq_getD_getElem?, hop]
          cases hbi : Region.binds .any e
          · rfl
          · simp only [Bool.not_true, Bool.false_or]
            have h4 := List.all_eq_true.1 (List.all_eq_true.1 (show (List.range ops.size).all _ = true from hb1) d.i (by simpa using hdlt)) e (by rw [hgd]; exact hee)
            rw [hbi] at h4
            simp only [Bool.not_true, Bool.false_or, Bool.and_eq_true, decide_eq_true_eq] at h4
            rcases hR.cov e.on (by omega) with h1 | ⟨d', hd', hd'i⟩
            · simp [h1]
            · exfalso
              rcases List.mem_cons.1 hd' with rfl | hd'
              · omega
              · have := (List.pairwise_cons.1 hR.pw).1 d' hd'
                unfold pairOk at this
                simp only [Bool.and_eq_true, Bool.not_eq_true'] at this
                have h5 := this.1.1.2
                rw [hd'i] at h5
                rw [h4.2] at h5
                cases h5
        rw [hemp] at hmem
        cases hmem
    · intro i hi
      unfold Region.ready at hi
      rw [List.mem_filter] at hi
      obtain ⟨hir, hi2⟩ := hi
      have hilt : i < ops.size := by simpa using hir
      simp only [Bool.and_eq_true, Bool.not_eq_true'] at hi2
      obtain ⟨hnl, hrd⟩ := hi2
      have hlt : i < listed.size := by rw [hR.size]; exact hilt
      rcases hR.cov i hilt with h1 | ⟨y, hy, rfl⟩
      · simp [Array.getD_eq_getD_getElem?, h1] at hnl
      · obtain ⟨l1, l2, rfl⟩ := List.append_of_mem hy
        have hop := hR.op y hy
        have hgd : ops.getD y.i default = y.o := by simp [Array.getD_eq_getD_getElem?, hop]
        have hpre : ∀ e ∈ (ops.getD y.i default).after.toList, Region.binds .any e = true → listed[e.on]? = some true := by
          intro e hee hbi
          rw [hgd] at hee
          rw [hop] at hrd
          simp only [Option.map_some, Option.getD_some] at hrd
          rw [← Array.all_toList, List.all_eq_true] at hrd
          have := hrd e hee
          rw [hbi] at this
          simp only [Bool.not_true, Bool.false_or, Array.getD_eq_getD_getElem?] at this
          cases hx : listed[e.on]? with
          | none => rw [hx] at this; simp at this
          | some b => rw [hx] at this; simp at this; rw [this]
        have hsw : ∀ x ∈ l1, Sw P base x y ∧ Oper.apart ops x.o y.o = true := by
          intro x hx
          have hp : pairOk P ops bef x y = true := (List.pairwise_append.1 hR.pw).2.2 x hx y (by simp)
          refine sw_of hp (hR.di x (by simp [hx])) (hR.di y hy) ?_
          rw [← Bool.not_eq_true]
          intro hbit
          have hxi := hR.di x (by simp [hx])
          unfold diOk at hxi
          simp only [Bool.and_eq_true, decide_eq_true_eq] at hxi
          have hls := bef_listed hb1 hb2 hR.down y.i hilt hpre x.i hxi.1.1.1 hbit
          rw [hR.out x (by simp [hx])] at hls
          cases hls
        have hf := front hcs hcb hm l1 hsw (fun s hs => hun y hy s hs) hh
        rw [runD_cons hm] at hf
        have hsz : (l1 ++ l2).length = k := by
          simp at hl ⊢; omega
        -- the held numbers of the others stay held
        have hkeep : st P C ops base y pd env h fun pd env h' => runD P C ops.toList base (l1 ++ l2) pd env h' K ∧ ∀ d ∈ l1 ++ l2, ∀ s, d.slot = some s → h'[base + s]? = some .unborn := by
          have key : ∀ (m : List DI), (∀ d ∈ m, d ∈ l1 ++ l2) → st P C ops base y pd env h fun pd env h' => runD P C ops.toList base (l1 ++ l2) pd env h' K ∧ ∀ d ∈ m, ∀ s, d.slot = some s → h'[base + s]? = some .unborn := by
            intro m
            induction m with
            | nil => intro _; exact st_mono hm (fun p e h' hk => ⟨hk, by simp⟩) hf
            | cons d m ih =>
              intro hmm
              have ih := ih fun d hd => hmm d (by simp [hd])
              have hdm := hmm d (by simp)
              have hdl : d ∈ l1 ++ y :: l2 := by
                rcases List.mem_append.1 hdm with h | h
                · exact List.mem_append_left _ h
                · exact List.mem_append_right _ (List.mem_cons_of_mem _ h)
              cases hds : d.slot with
              | none => exact st_mono hm (fun p e h' hk => ⟨hk.1, fun d' hd' s hs => by
                  rcases List.mem_cons.1 hd' with rfl | hd'
                  · rw [hds] at hs; cases hs
                  · exact hk.2 d' hd' s hs⟩) ih
              | some s0 =>
                refine st_mono hm (fun p e h' hk => ⟨hk.1.1, fun d' hd' s hs => ?_⟩) (st_keeps hcb hm (hun d hdl s0 hds) (fun s hs => ?_) ih)
                · rcases List.mem_cons.1 hd' with rfl | hd'
                  · rw [hds] at hs; cases hs; exact hk.2
                  · exact hk.1.2 d' hd' s hs
                · intro heq
                  have : s = s0 := by omega
                  subst this
                  have hpp : pairOk P ops bef d y = true ∨ pairOk P ops bef y d = true := by
                    rcases List.mem_append.1 hdm with h | h
                    · exact .inl ((List.pairwise_append.1 hR.pw).2.2 d h y (by simp))
                    · exact .inr ((List.pairwise_cons.1 (List.pairwise_append.1 hR.pw).2.1).1 d h)
                  rcases hpp with hpp | hpp
                  · unfold pairOk at hpp
                    simp only [Bool.and_eq_true] at hpp
                    have := hpp.1.2
                    rw [hds, hs] at this
                    simp at this
                  · unfold pairOk at hpp
                    simp only [Bool.and_eq_true] at hpp
                    have := hpp.1.2
                    rw [hds, hs] at this
                    simp at this
          exact key _ fun _ h => h
        refine st_sound hC hop H he hkeep fun pd' env' h' σ' a' w' hk he' hs hd hsz' => ?_
        refine any_sound (n := n) hC hcs hcb hm hb1 hb2 k (l1 ++ l2) (listed.setIfInBounds y.i true) pd' env' h' hsz ?_ hk.2 hs.rel he' hk.1 fun env'' h'' σ'' a'' w'' hk' he'' hs' hd' hsz'' => hQ _ _ _ _ _ hk' he'' (hs.trans hs') (hd'.trans hd) (hsz''.trans hsz')
        have hmem : ∀ d ∈ l1 ++ l2, d ∈ l1 ++ y :: l2 := by
          intro d hdm
          rcases List.mem_append.1 hdm with h | h
          · exact List.mem_append_left _ h
          · exact List.mem_append_right _ (List.mem_cons_of_mem _ h)
        have hne : ∀ d ∈ l1 ++ l2, y.i ≠ d.i := by
          intro d hdm heq
          have hpp : pairOk P ops bef d y = true ∨ pairOk P ops bef y d = true := by
            rcases List.mem_append.1 hdm with h | h
            · exact .inl ((List.pairwise_append.1 hR.pw).2.2 d h y (by simp))
            · exact .inr ((List.pairwise_cons.1 (List.pairwise_append.1 hR.pw).2.1).1 d h)
          rcases hpp with hpp | hpp
          · unfold pairOk at hpp
            simp only [Bool.and_eq_true, bne_iff_ne] at hpp
            exact hpp.1.1.1 heq.symm
          · unfold pairOk at hpp
            simp only [Bool.and_eq_true, bne_iff_ne] at hpp
            exact hpp.1.1.1 heq
        refine ⟨by simpa using hR.size, fun d hd => hR.op d (hmem d hd), fun d hd => ?_, fun i hi => ?_, fun j hj e hee hbi => ?_, ?_, fun d hd => hR.di d (hmem d hd)⟩
        · rw [Array.getElem?_setIfInBounds_ne (hne d hd)]
          exact hR.out d (hmem d hd)
        · by_cases hiy : y.i = i
          · subst hiy; left; simp [hlt]
          · rw [Array.getElem?_setIfInBounds_ne hiy]
            rcases hR.cov i hi with h1 | ⟨d, hd, rfl⟩
            · exact .inl h1
            · right
              refine ⟨d, ?_, rfl⟩
              rcases List.mem_append.1 hd with h | h
              · exact List.mem_append_left _ h
              · rcases List.mem_cons.1 h with rfl | h
                · exact absurd rfl hiy
                · exact List.mem_append_right _ h
        · have hon : listed[e.on]? = some true := by
            by_cases hjy : y.i = j
            · subst hjy; exact hpre e hee hbi
            · rw [Array.getElem?_setIfInBounds_ne hjy] at hj
              exact hR.down j hj e hee hbi
          by_cases hey : y.i = e.on
          · rw [← hey]; simp [hlt]
          · rw [Array.getElem?_setIfInBounds_ne hey]; exact hon
        · exact hR.pw.sublist (List.Sublist.append_left (List.sublist_cons_self _ _) _)

end
end Go.Abs
