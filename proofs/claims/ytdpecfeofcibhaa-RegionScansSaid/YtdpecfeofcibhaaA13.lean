/- A block that is born where its number was held changes nothing for whoever does not know of it. -/
import Derived.Test.YtdpecfeofcibhaaA12
namespace Go.Abs
section
variable {P : Program} {M : FuncId → Keep}

/-- All that is there in the one heap, but for held numbers, is there in the other one. -/
def HLe (h h2 : AH) : Prop := ∀ (j : Nat) x, h[j]? = some x → x ≠ .unborn → h2[j]? = some x

theorem HLe.born {h : AH} {i : Nat} {B : ABlk} (hi : h[i]? = some .unborn) : HLe h (h.set i B) := fun j x hj hx => by
  by_cases hij : i = j
  · subst hij; rw [hi] at hj; cases hj; exact absurd rfl hx
  · rw [List.getElem?_set_ne hij]; exact hj

theorem HLe.row {h h2 : AH} (hl : HLe h h2) {j : Nat} {c : List AV} (hr : h.row j = some c) : h2.row j = some c := by
  obtain ⟨ro, hj⟩ := row_iff.1 hr
  exact row_iff.2 ⟨ro, hl j _ hj (by simp)⟩
theorem HLe.cellsAt {h h2 : AH} (hl : HLe h h2) {j o n : Nat} {c : List AV} (hr : h.cellsAt j o n = some c) : h2.cellsAt j o n = some c := by
  unfold AH.cellsAt at *
  obtain ⟨r, h1, h2⟩ := Option.bind_eq_some_iff.1 hr
  rw [hl.row h1]; exact h2
theorem HLe.cell {h h2 : AH} (hl : HLe h h2) {j o : Nat} {c : AV} (hr : h.cell j o = some c) : h2.cell j o = some c := by
  unfold AH.cell at *
  obtain ⟨r, h1, h2⟩ := Option.bind_eq_some_iff.1 hr
  rw [hl.row h1]; exact h2
theorem HLe.sliceAt {h h2 : AH} (hl : HLe h h2) {s : Sl} {n : Nat} {c : List AV} (hr : h.sliceAt s n = some c) : h2.sliceAt s n = some c := by
  unfold AH.sliceAt at *
  split at hr
  · rw [if_pos (by assumption)]; exact hr
  · rw [if_neg (by assumption)]; exact hl.cellsAt hr
theorem HLe.mapAt {h h2 : AH} (hl : HLe h h2) {j : Nat} {c : List MEnt × Nat} (hr : h.mapAt j = some c) : h2.mapAt j = some c := by
  unfold AH.mapAt at *
  split at hr
  · rename_i es ck hj
    rw [hl j _ hj (by simp)]; exact hr
  · cases hr

theorem HLe.req {h h2 : AH} (hl : HLe h h2) {q : Req} (hq : q.ok h = true) : q.ok h2 = true := by
  cases q with
  | cells i o n cs =>
    simp only [Req.ok] at *
    split at hq
    · rename_i ds hd; rw [hl.cellsAt hd]; exact hq
    · cases hq
  | map r es =>
    cases r with
    | none => rfl
    | some r =>
      simp only [Req.ok] at *
      split at hq
      · rename_i ds ck hd; rw [hl.mapAt hd]; exact hq
      · cases hq
  | none => rfl

theorem HLe.oks {h h2 : AH} (hl : HLe h h2) {re : List Nat} {pd : List (Nat × Req)} (hq : oks h re pd = true) : oks h2 re pd = true := by
  unfold Abs.oks at *
  rw [List.all_eq_true] at *
  intro p hp
  have := hq p hp
  simp only [Bool.or_eq_true] at *
  exact this.imp id hl.req

theorem HLe.aRead {h h2 : AH} (hl : HLe h h2) {o : Oper} {env : List AV} {K : Req → AV → Prop} (hh : aRead P o env h K) : aRead P o env h2 K := by
  obtain ⟨dst, op, type, pos, after, guard⟩ := o
  unfold Abs.aRead at hh ⊢
  have obc : ∀ {j o n} {K K' : List AV → Prop}, (∀ c, K c → K' c) → ob (h.cellsAt j o n) K → ob (h2.cellsAt j o n) K' := fun hk hh => by
    rw [ob_iff] at *; obtain ⟨c, h1, h2⟩ := hh; exact ⟨c, hl.cellsAt h1, hk _ h2⟩
  have ob1 : ∀ {j o} {K K' : AV → Prop}, (∀ c, K c → K' c) → ob (h.cell j o) K → ob (h2.cell j o) K' := fun hk hh => by
    rw [ob_iff] at *; obtain ⟨c, h1, h2⟩ := hh; exact ⟨c, hl.cell h1, hk _ h2⟩
  have obm : ∀ {j} {K K' : List MEnt × Nat → Prop}, (∀ c, K c → K' c) → ob (h.mapAt j) K → ob (h2.mapAt j) K' := fun hk hh => by
    rw [ob_iff] at *; obtain ⟨c, h1, h2⟩ := hh; exact ⟨c, hl.mapAt h1, hk _ h2⟩
  cases op <;> simp only at hh ⊢ <;> try exact hh.elim
  case load t x =>
    refine chkPtr_mono (fun p h => ob_mono (fun a _ h => guardR_mono (fun h => zeroOf_mono (fun z h => ?_) h) h) h) hh
    exact ite_mono (fun h => obc (fun _ h => h) h) (fun h => ob1 (fun _ h => h) h) h
  case convert s d x =>
    split at hh
    · refine ite_mono (fun hh => ?_) id hh
      split at hh
      · unfold aBytes at hh ⊢
        split at hh
        · exact hh
        · exact ite_mono id (fun h => obc (fun _ h => h) h) hh
      · exact hh.elim
    · exact hh.elim
  case lookup t m k ok =>
    split at hh
    · refine zeroOf_mono (fun zk hh => zeroOf_mono (fun ze hh => chkOne_mono (fun kv hh => aKey_mono (fun hh => ?_) hh) hh) hh) hh
      refine chkMap_mono (fun mm hh => ?_) hh
      cases mm with
      | none => exact hh
      | some r => exact obm (fun _ h => h) hh
    · exact hh.elim
  case call c =>
    split at hh
    · split at hh
      · split at hh
        · exact hh
        · exact obm (fun _ h => h) hh
        · exact hh.elim
      · exact hh.elim
    · exact hh.elim

/-- What holds of a heap in which the number is still held. -/
def BP (i : Nat) (B : ABlk) (K : AH → Prop) (h' : AH) : Prop := ∃ h0 : AH, h0[i]? = some .unborn ∧ h' = h0.set i B ∧ K h0

theorem BP.mk {i : Nat} {B : ABlk} {K : AH → Prop} {h : AH} (hi : h[i]? = some .unborn) (hk : K h) : BP i B K (h.set i B) := ⟨h, hi, rfl, hk⟩
theorem BP.mono {i : Nat} {B : ABlk} {K K' : AH → Prop} (hk : ∀ h, K h → K' h) {h : AH} (hh : BP i B K h) : BP i B K' h := by
  obtain ⟨h0, h1, h2, h3⟩ := hh; exact ⟨h0, h1, h2, hk _ h3⟩

theorem BP.push {i : Nat} {B X : ABlk} {K : AH → Prop} {h : AH} (hi : h[i]? = some .unborn) (hk : K (h ++ [X])) : BP i B K (h.set i B ++ [X]) := by
  have hlt := (List.getElem?_eq_some_iff.1 hi).1
  exact ⟨h ++ [X], by rw [List.getElem?_append_left hlt]; exact hi, by rw [List.set_append_left _ _ hlt], hk⟩

theorem BP.set {i j : Nat} {B X : ABlk} {K : AH → Prop} {h : AH} (hi : h[i]? = some .unborn) (hij : j ≠ i) (hk : K (h.set j X)) : BP i B K ((h.set i B).set j X) :=
  ⟨h.set j X, by rw [List.getElem?_set_ne hij]; exact hi, by rw [List.set_comm _ _ (Ne.symm hij)], hk⟩

theorem ne_of_get {h : AH} {i j : Nat} {x : ABlk} (hi : h[i]? = some .unborn) (hj : h[j]? = some x) (hx : x ≠ .unborn) : j ≠ i := by
  rintro rfl; rw [hi] at hj; cases hj; exact hx rfl

theorem BP.puts {i : Nat} {B : ABlk} {K K' : AH → Prop} {h : AH} (hi : h[i]? = some .unborn) {j o : Nat} {vs : List AV} (hk : ∀ h', BP i B K h' → K' h') (hh : ob (h.puts j o vs) K) : ob (AH.puts (h.set i B) j o vs) K' := by
  rw [ob_iff] at *
  obtain ⟨h', hp, hh⟩ := hh
  unfold AH.puts at hp ⊢
  split at hp
  · rename_i c hj
    have hne := ne_of_get hi hj (by simp)
    rw [HLe.born hi j _ hj (by simp)]
    split at hp
    · rename_i hle
      cases hp
      exact ⟨_, by simp only [if_pos hle], hk _ (BP.set hi hne hh)⟩
    · cases hp
  · cases hp

theorem aNews_hle {h h2 : AH} (hl : HLe h h2) {size : Nat} {x : AV} {K K' : List AV → Nat → Prop} (hk : ∀ a n, K a n → K' a n) (hh : aNews h size x K) : aNews h2 size x K' := by
  unfold aNews at hh ⊢
  split at hh
  · exact hk _ _ hh
  · rw [ob_iff] at *; obtain ⟨c, h1, h2⟩ := hh; exact ⟨c, hl.sliceAt h1, hk _ _ h2⟩
  · exact ite_mono (hk _ _) id hh
  · exact hh.elim

theorem aAppend_birth {h : AH} {i : Nat} {B : ABlk} (hi : h[i]? = some .unborn) {size bytes : Nat} {s : Option Sl} {new : List AV} {n : Nat} {K : Option Sl → AH → Prop} (hh : aAppend h size bytes s new n K) :
    aAppend (h.set i B) size bytes s new n fun v h' => BP i B (K v) h' := by
  have hl : (h.set i B).length = h.length := by simp
  unfold aAppend at hh ⊢
  split at hh
  · refine ite_mono (fun h => BP.mk hi h) (fun h => ite_mono (fun h => ?_) id h) hh
    rw [hl]; exact BP.push hi h
  · refine ite_mono (fun h => ?_) (fun h => ite_mono (fun h => ?_) id h) hh
    · split at h
      · rename_i h0
        rw [ob_iff] at h
        obtain ⟨h', h1, h2⟩ := h
        cases h1
        rw [if_pos h0]
        exact BP.mk hi h2
      · rename_i h0
        rw [if_neg h0]
        exact BP.puts hi (fun _ h => h) h
    · rw [ob_iff] at *
      obtain ⟨c, h1, h⟩ := h
      refine ⟨c, (HLe.born hi).sliceAt h1, ?_⟩
      split at h
      · rw [hl]; exact BP.push hi h
      · refine ite_mono (fun h => ?_) id h
        split at h
        · rename_i c0 hj
          have hne := ne_of_get hi hj (by simp)
          rw [HLe.born hi _ _ hj (by simp), hl]
          obtain ⟨g, hg1, hg2, hg3⟩ := BP.set (B := B) (X := .dead) (K := fun g => K _ (g ++ _)) hi hne h
          rw [hg2]
          exact BP.push hg1 hg3
        · exact h.elim

theorem aBuiltin_birth {h : AH} {i : Nat} {B : ABlk} (hi : h[i]? = some .unborn) {b : Builtin} {ts : Array TypeId} {args : List AV} {K : AV → AH → Prop} (hh : aBuiltin P b ts args h K) :
    aBuiltin P b ts args (h.set i B) fun v h' => BP i B (K v) h' := by
  unfold aBuiltin at hh ⊢
  cases b <;> simp only at hh ⊢ <;> try exact hh.elim
  case append =>
    split at hh
    · split at hh
      · exact guardR_mono (fun h => chkSl_mono (fun _ h => aNews_hle (HLe.born hi) (fun _ _ h => zeroOf_mono (fun _ h => guardR_mono (fun h => aAppend_birth hi h) h) h) h) h) hh
      · exact hh.elim
    · exact hh.elim
  case copy =>
    split at hh
    · split at hh
      · refine guardR_mono (fun h => chkSl_mono (fun s h => ?_) h) hh
        cases s with
        | none => exact aNews_hle (HLe.born hi) (fun _ _ h => BP.mk hi h) h
        | some d =>
          refine aNews_hle (HLe.born hi) (fun _ _ h => guardR_mono (fun h => ?_) h) h
          split at h
          · rename_i h0
            rw [ob_iff] at h
            obtain ⟨h', h1, h2⟩ := h
            cases h1
            simp only [if_pos h0]
            exact BP.mk hi h2
          · rename_i h0
            simp only [if_neg h0]
            exact BP.puts hi (fun _ h => h) h
      · exact hh.elim
    · exact hh.elim
  case clear =>
    split at hh
    · exact ite_mono (BP.mk hi) (fun h => zeroOf_mono (fun _ h => guardR_mono (fun h => BP.puts hi (fun _ h => h) h) h) h) hh
    · exact BP.mk hi hh
    · exact BP.mk hi hh
    · rw [ob_iff] at *
      obtain ⟨c, h1, h⟩ := hh
      refine ⟨c, (HLe.born hi).mapAt h1, ?_⟩
      refine BP.set hi ?_ h
      rintro rfl
      unfold AH.mapAt at h1; rw [hi] at h1; cases h1
    · exact hh.elim
  case delete =>
    split at hh
    · refine zeroOf_mono (fun _ h => chkOne_mono (fun _ h => aKey_mono (fun h => ?_) h) h) hh
      rw [ob_iff] at *
      obtain ⟨c, h1, h⟩ := h
      refine ⟨c, (HLe.born hi).mapAt h1, findIx_mono _ _ (fun i h => ?_) h⟩
      cases i
      · exact BP.mk hi h
      · refine BP.set hi ?_ h
        rintro rfl
        unfold AH.mapAt at h1; rw [hi] at h1; cases h1
    · exact hh.elim

/-- A reading of calls that stands when the number is born. -/
def CBirth (i : Nat) (B : ABlk) (C C' : CallP) : Prop := ∀ f args h K, h[i]? = some .unborn → C f args h K → C' f args (h.set i B) fun v h' => BP i B (K v) h'
def LBirth (i : Nat) (B : ABlk) (L L' : LoopP) : Prop := ∀ kp c env h K, h[i]? = some .unborn → L kp c env h K → L' kp c env (h.set i B) fun e env h' => BP i B (K e env) h'

theorem aEff_birth {i : Nat} {B : ABlk} {C C' : CallP} (hc : CBirth i B C C') (hm : MonoC C') {o : Oper} {env : List AV} {h : AH} {K : AV → AH → Prop} (hi : h[i]? = some .unborn) (hh : aEff P C o env h K) :
    aEff P C' o env (h.set i B) fun v h' => BP i B (K v) h' := by
  have hmap : ∀ {r c}, h.mapAt r = some c → r ≠ i := by
    rintro r c h1 rfl
    unfold AH.mapAt at h1; rw [hi] at h1; cases h1
  have hl : (h.set i B).length = h.length := by simp
  obtain ⟨dst, op, type, pos, after, guard⟩ := o
  unfold aEff at hh ⊢
  cases op <;> simp only at hh ⊢ <;> try exact hh.elim
  case store t x y =>
    exact chkPtr_mono (fun p h => ob_mono (fun a _ h => ite_mono (fun h => BP.puts hi (fun _ h => h) h) id h) h) hh
  case mapUpdate t m k x =>
    split at hh
    · refine zeroOf_mono (fun _ h => chkOne_mono (fun _ h => aKey_mono (fun h => chkT_mono (fun _ h => ?_) h) h) h) hh
      refine chkMap_mono (fun mm h => ob_mono (fun r _ h => ?_) h) h
      rw [ob_iff] at *
      obtain ⟨c, h1, h⟩ := h
      refine ⟨c, (HLe.born hi).mapAt h1, findIx_mono _ _ (fun ix h => ?_) h⟩
      cases ix <;> exact BP.set hi (hmap h1) h
    · exact hh.elim
  case range t x =>
    split at hh
    · rw [hl]; exact BP.push hi hh
    · rw [ob_iff] at *
      obtain ⟨c, h1, h⟩ := hh
      refine ⟨c, (HLe.born hi).mapAt h1, ?_⟩
      rw [hl]; exact BP.push hi h
    · exact hh.elim
  case next it s =>
    split at hh
    · cases s
      · simp only [cond_false] at hh ⊢
        split at hh
        · rename_i hj
          rw [HLe.born hi _ _ hj (by simp)]
          exact BP.mk hi hh
        · rename_i hj
          rw [HLe.born hi _ _ hj (by simp)]
          have hne := ne_of_get hi hj (by simp)
          simp only
          rw [ob_iff] at *
          obtain ⟨c, h1, hh⟩ := hh
          refine ⟨c, (HLe.born hi).mapAt h1, ite_mono id (fun hh ix hix => ?_) hh⟩
          have hh := hh ix hix
          simp only at hh ⊢
          split at hh
          · exact BP.set hi hne hh
          · exact BP.mk hi hh
          · exact hh.elim
        · exact hh.elim
      · exact hh.elim
    · exact hh.elim
  case entry it =>
    split at hh
    · split at hh
      · rename_i hj
        rw [HLe.born hi _ _ hj (by simp)]
        simp only
        rw [ob_iff] at *
        obtain ⟨c, h1, hh⟩ := hh
        exact ⟨c, (HLe.born hi).mapAt h1, ob_mono (fun _ _ h => ite_mono (fun h => ob_mono (fun _ _ h => BP.mk hi h) h) id h) hh⟩
      · exact hh.elim
    · exact hh.elim
  case call c =>
    split at hh
    · split at hh
      · refine hm.mono _ _ _ _ _ (fun v h' hb => ?_) (hc _ _ _ _ hi hh)
        obtain ⟨h0, h1, h2, h3⟩ := hb
        exact chkT_mono (fun _ h => ⟨h0, h1, h2, h⟩) h3
      · exact hh.elim
    · exact aBuiltin_birth hi hh
    · exact hh.elim

theorem aOp_birth {i : Nat} {B : ABlk} {C C' : CallP} (hc : CBirth i B C C') (hm : MonoC C') {o : Oper} {slot : Option Nat} {env : List AV} {h : AH} {K : Req → AV → AH → Prop} (hi : h[i]? = some .unborn) (hs : ∀ s, slot = some s → s ≠ i)
    (hh : aOp P C o slot env h K) : aOp P C' o slot env (h.set i B) fun q v h' => BP i B (K q v) h' := by
  have hl : (h.set i B).length = h.length := by simp
  unfold aOp at hh ⊢
  split at hh
  · exact aPure_mono (fun _ h => BP.mk hi h) hh
  · exact aRead_mono (fun _ _ h => BP.mk hi h) (HLe.aRead (HLe.born hi) hh)
  · refine aAlloc_mono (fun b f hh => ?_) hh
    cases slot with
    | none => simp only at hh ⊢; rw [hl]; exact BP.push hi hh
    | some s =>
      have hne := hs s rfl
      simp only at hh ⊢
      split at hh
      · rename_i hj
        rw [List.getElem?_set_ne (Ne.symm hne), hj]
        exact BP.set hi hne hh
      · exact hh.elim
  · exact aEff_birth hc hm hi hh

theorem runD_birth {i : Nat} {B : ABlk} {C C' : CallP} (hc : CBirth i B C C') (hm : MonoC C') {ops : List Oper} {base : Nat} : ∀ (l : List DI) (pd : List (Nat × Req)) (env : List AV) (h : AH) {K : List AV → AH → Prop}, h[i]? = some .unborn →
    (∀ d ∈ l, ∀ s, d.slot = some s → i < base) → runD P C ops base l pd env h K → runD P C' ops base l pd env (h.set i B) fun env h' => BP i B (K env) h'
  | [], _, _, _, _, hi, _, hh => BP.mk hi hh
  | d :: l, pd, env, h, K, hi, hs, hh => by
    unfold runD at hh ⊢
    obtain ⟨t, ht⟩ := wantedE_det hh
    rw [ht] at hh ⊢
    have hs' := fun d' hd' => hs d' (List.mem_cons_of_mem _ hd')
    cases t
    · exact runD_birth hc hm l _ _ _ hi hs' hh
    · simp only [cond_true] at hh ⊢
      have hslot : ∀ s, d.slot.map (base + ·) = some s → s ≠ i := by
        intro s hs1
        cases hd : d.slot with
        | none => rw [hd] at hs1; cases hs1
        | some s0 =>
          rw [hd] at hs1
          simp at hs1
          have := hs d (by simp) s0 hd
          omega
      refine aOp_mono (fun _ _ _ _ h => h) hm (fun q v h' hb => ?_) (aOp_birth hc hm hi hslot hh)
      obtain ⟨h0, h1, rfl, h3⟩ := hb
      cases hok : oks h0 d.re pd
      · rw [hok] at h3; exact h3.elim
      · rw [hok] at h3
        rw [(HLe.born h1).oks hok]
        simp only [cond_true, splitB_iff] at h3 ⊢
        exact runD_birth hc hm l _ _ _ h1 hs' h3

theorem plainDI_slot {ops : List Oper} : ∀ d ∈ plainDI ops, d.slot = none := by
  intro d hd
  simp only [plainDI, List.mem_map] at hd
  obtain ⟨x, _, rfl⟩ := hd; rfl

theorem exec_birth {i : Nat} {B : ABlk} {C C' : CallP} {L L' : LoopP} (hc : CBirth i B C C') (hl : LBirth i B L L') (hm : MonoC C') (hml : MonoL L') (kp : Keep) : ∀ (c : Code) (env : List AV) (h : AH) {K : AEx → List AV → AH → Prop}, h[i]? = some .unborn →
    exec P C L kp c env h K → exec P C' L' kp c env (h.set i B) fun e env h' => BP i B (K e env) h'
  | .skip, _, _, _, hi, h => BP.mk hi h
  | .region _ ops draw, env, h, K, hi, hh => by
    unfold exec at hh ⊢
    cases draw
    · simp only [cond_false] at hh ⊢
      exact runD_birth hc hm _ _ _ _ hi (fun d hd s hs => by rw [plainDI_slot d hd] at hs; cases hs) hh
    · simp only [cond_true] at hh ⊢
      split at hh
      · rename_i l n _
        have hlt := (List.getElem?_eq_some_iff.1 hi).1
        have := runD_birth (B := B) hc hm (base := h.length) l [] env (h ++ List.replicate n .unborn) (by rw [List.getElem?_append_left hlt]; exact hi) (fun _ _ _ _ => hlt) hh
        rw [List.set_append_left _ _ hlt] at this
        rw [show (h.set i B).length = h.length by simp]
        exact this
      · exact hh.elim
  | .seq a b, env, h, K, hi, hh => by
    unfold exec at hh ⊢
    refine exec_mono (fun _ _ _ _ h => h) (fun _ _ _ _ _ h => h) hm hml kp a env _ (fun e env h hb => ?_) (exec_birth hc hl hm hml kp a env h hi hh)
    obtain ⟨h0, h1, rfl, h3⟩ := hb
    cases e with
    | normal =>
      simp only at h3 ⊢
      split at h3
      · exact hl _ _ _ _ _ h1 h3
      · exact exec_birth hc hl hm hml kp b _ h0 h1 h3
    | exit id => exact BP.mk h1 h3
    | ret => exact BP.mk h1 h3
  | .cond c a b, env, h, K, hi, hh => by
    unfold exec at hh ⊢
    refine chkBool_mono (fun t hh => ?_) hh
    cases t
    · exact exec_birth hc hl hm hml kp b env h hi hh
    · exact exec_birth hc hl hm hml kp a env h hi hh
  | .block id c, env, h, K, hi, hh => by
    unfold exec at hh ⊢
    refine exec_mono (fun _ _ _ _ h => h) (fun _ _ _ _ _ h => h) hm hml kp c env _ (fun e env h hb => ?_) (exec_birth hc hl hm hml kp c env h hi hh)
    obtain ⟨h0, h1, rfl, h3⟩ := hb
    cases e with
    | exit id' =>
      simp only at h3 ⊢
      cases hid : id' == id
      · rw [hid] at h3; exact BP.mk h1 h3
      · rw [hid] at h3; exact BP.mk h1 h3
    | normal => exact BP.mk h1 h3
    | ret => exact BP.mk h1 h3
  | .loop c, env, h, K, hi, hh => guardR_mono (fun hh => hml.mono _ _ _ _ _ _ (fun e env h hb => by
      obtain ⟨h0, h1, rfl, h3⟩ := hb
      obtain ⟨ws, hk1, hk2⟩ := loopEnd_det (K := fun e ws => K e ws h0) h3
      exact hk2 (fun e ws => BP i B (K e ws) (h0.set i B)) (BP.mk h1 hk1)) (hl _ _ _ _ _ hi hh)) hh
  | .scope c, env, h, _, hi, hh => by
    unfold exec at hh ⊢
    exact exec_birth hc hl hm hml kp c env h hi hh
  | .exit id, _, _, _, hi, h => BP.mk hi h
  | .label _, _, _, _, hi, h => BP.mk hi h
  | .ret, _, _, _, hi, h => BP.mk hi h
  | .rangeFunc .., _, _, _, _, h => h.elim
  | .goto _, _, _, _, _, h => h.elim
  | .refuse _, _, _, _, _, h => h.elim

theorem aResults_hle {env : List AV} {h h2 : AH} (hl : HLe h h2) : ∀ (l : List ResultVar) {K : List AV → Prop}, aResults P env h l K → aResults P env h2 l K
  | [], _, hh => hh
  | .tmp t :: l, K, hh => aResults_hle hl l (K := fun vs => K (env.getD t .bot :: vs)) hh
  | .cell a t :: l, K, hh => by
    unfold aResults at hh ⊢
    refine chkPtr_mono (fun p h => ob_mono (fun p _ h => guardR_mono (fun h => zeroOf_mono (fun _ h => ite_mono (fun h => ?_) (fun h => ?_) h) h) h) h) hh
    · rw [ob_iff] at *
      obtain ⟨c, h1, h⟩ := h
      exact ⟨c, hl.cellsAt h1, chkCells_mono (fun _ h => aResults_hle hl l h) h⟩
    · rw [ob_iff] at *
      obtain ⟨c, h1, h⟩ := h
      exact ⟨c, hl.cell h1, chkCell_mono (fun _ h => aResults_hle hl l h) h⟩

theorem fstep_birth {i : Nat} {B : ABlk} {C C' : CallP} {L L' : LoopP} (hc : CBirth i B C C') (hl : LBirth i B L L') (hm : MonoC C') (hml : MonoL L') {f : FuncId} {args : List AV} {h : AH} {K : AV → AH → Prop} (hi : h[i]? = some .unborn)
    (hh : fstep P C L M f args h K) : fstep P C' L' M f args (h.set i B) fun v h' => BP i B (K v) h' := by
  unfold fstep at hh ⊢
  refine ob_mono (fun fn _ hh => ob_mono (fun c _ hh => guardR_mono (fun hh => ?_) hh) hh) hh
  refine exec_mono (fun _ _ _ _ h => h) (fun _ _ _ _ _ h => h) hm hml _ c _ _ (fun e env h hb => ?_) (exec_birth hc hl hm hml _ c _ h hi hh)
  obtain ⟨h0, h1, rfl, h3⟩ := hb
  cases e with
  | normal => exact aResults_mono _ (fun _ h => BP.mk h1 h) (aResults_hle (HLe.born h1) _ h3)
  | ret => exact aResults_mono _ (fun _ h => BP.mk h1 h) (aResults_hle (HLe.born h1) _ h3)
  | exit id => exact h3.elim

theorem lstep_birth {i : Nat} {B : ABlk} {C C' : CallP} {L L' : LoopP} (hc : CBirth i B C C') (hl : LBirth i B L L') (hm : MonoC C') (hml : MonoL L') {kp : Keep} {c : Code} {env : List AV} {h : AH} {K : AEx → List AV → AH → Prop} (hi : h[i]? = some .unborn)
    (hh : lstep P C L kp c env h K) : lstep P C' L' kp c env (h.set i B) fun e env h' => BP i B (K e env) h' := by
  unfold lstep at hh ⊢
  split at hh
  · exact exec_birth hc hl hm hml kp _ env h hi hh
  · refine exec_mono (fun _ _ _ _ h => h) (fun _ _ _ _ _ h => h) hm hml kp _ env _ (fun e env h hb => ?_) (exec_birth hc hl hm hml kp _ env h hi hh)
    obtain ⟨h0, h1, rfl, h3⟩ := hb
    cases e with
    | normal => exact hl _ _ _ _ _ h1 h3
    | ret => exact BP.mk h1 h3
    | exit id => exact BP.mk h1 h3

/-- Calls do not know of a number that is held. -/
theorem birth_both : (∀ i B, CBirth i B (ACall P M) (ACall P M)) ∧ ∀ i B, LBirth i B (ALoop P M) (ALoop P M) := by
  let C : CallP := fun f args h K => ∀ i B, h[i]? = some .unborn → ACall P M f args (h.set i B) fun v h' => BP i B (K v) h'
  let L : LoopP := fun kp c env h K => ∀ i B, h[i]? = some .unborn → ALoop P M kp c env (h.set i B) fun e env h' => BP i B (K e env) h'
  have hcl : ClosedP P M C L := by
    refine ⟨⟨fun f args h K K' hk hh i B hi => ACall.mono.mono _ _ _ _ _ (fun v h' hb => BP.mono (fun _ h => hk _ _ h) hb) (hh i B hi)⟩, ⟨fun kp c env h K K' hk hh i B hi => ALoop.mono.mono _ _ _ _ _ _ (fun e env h' hb => BP.mono (fun _ h => hk _ _ _ h) hb) (hh i B hi)⟩, ?_, ?_⟩
    · intro f args h K hh i B hi
      exact ACall.fold (fstep_birth (fun f args h K hi hc => hc i B hi) (fun kp c env h K hi hc => hc i B hi) ACall.mono ALoop.mono hi hh)
    · intro kp c env h K hh i B hi
      exact ALoop.fold (lstep_birth (fun f args h K hi hc => hc i B hi) (fun kp c env h K hi hc => hc i B hi) ACall.mono ALoop.mono hi hh)
  exact ⟨fun i B f args h K hi hh => hh C L hcl i B hi, fun i B kp c env h K hi hh => hh C L hcl i B hi⟩

end
end Go.Abs
