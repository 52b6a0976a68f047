/- What is said of the ways on may be weakened. -/
import Derived.Test.YtdpecfeofcibhaaA11
namespace Go.Abs
section
variable {P : Program} {M : FuncId → Keep}

theorem guardR_mono {b : Bool} {K K' : Prop} (hk : K → K') (h : guardR b K) : guardR b K' := by
  rw [guardR_iff] at *; exact ⟨h.1, hk h.2⟩
theorem ob_mono {α : Type} {x : Option α} {K K' : α → Prop} (hk : ∀ a, x = some a → K a → K' a) (h : ob x K) : ob x K' := by
  rw [ob_iff] at *; obtain ⟨a, h1, h2⟩ := h; exact ⟨a, h1, hk a h1 h2⟩
theorem chkInt_mono {k : IntKind} {v : AV} {K K' : Int → Prop} (hk : ∀ a, K a → K' a) (h : chkInt k v K) : chkInt k v K' := by
  rw [chkInt_iff] at *; obtain ⟨a, h1, h2⟩ := h; exact ⟨a, h1, hk a h2⟩
theorem chkNum_mono {v : AV} {K K' : Int → Prop} (hk : ∀ a, K a → K' a) (h : chkNum v K) : chkNum v K' := by
  rw [chkNum_iff] at *; obtain ⟨k, a, h1, h2⟩ := h; exact ⟨k, a, h1, hk a h2⟩
theorem chkBool_mono {v : AV} {K K' : Bool → Prop} (hk : ∀ a, K a → K' a) (h : chkBool v K) : chkBool v K' := by
  rw [chkBool_iff] at *; obtain ⟨a, h1, h2⟩ := h; exact ⟨a, h1, hk a h2⟩
theorem chkStr_mono {v : AV} {K K' : List UInt8 → Prop} (hk : ∀ a, K a → K' a) (h : chkStr v K) : chkStr v K' := by
  rw [chkStr_iff] at *; obtain ⟨a, h1, h2⟩ := h; exact ⟨a, h1, hk a h2⟩
theorem chkSl_mono {v : AV} {K K' : Option Sl → Prop} (hk : ∀ a, K a → K' a) (h : chkSl v K) : chkSl v K' := by
  rw [chkSl_iff] at *; obtain ⟨a, h1, h2⟩ := h; exact ⟨a, h1, hk a h2⟩
theorem zeroOf_mono {t : TypeId} {K K' : Value → Prop} (hk : ∀ a, K a → K' a) (h : zeroOf P t K) : zeroOf P t K' := by
  rw [zeroOf_iff] at *; obtain ⟨i, z, h1, h2, h3⟩ := h; exact ⟨i, z, h1, h2, hk z h3⟩
theorem ite_mono {c : Prop} [Decidable c] {A A' B B' : Prop} (ha : A → A') (hb : B → B') (h : if c then A else B) : if c then A' else B' := by
  split at * <;> simp_all
theorem partOf_mono {a : Bool} {n : Nat} {cs : List AV} {o : Nat} {K K' : AV → Prop} (hk : ∀ v, K v → K' v) (h : partOf a n cs o K) : partOf a n cs o K' := by
  unfold partOf at h ⊢
  cases a
  · exact ob_mono (fun a _ h => hk a h) h
  · simp only [if_true] at h ⊢
    exact ite_mono (hk _) id h

theorem aInts_mono {op : BinOp} {k : IntKind} {x y : Int} {K K' : AV → Prop} (hk : ∀ v, K v → K' v) (h : aInts op k x y K) : aInts op k x y K' := by
  cases op <;> simp only [aInts, aIntBits] at * <;> first | exact hk _ h | exact ite_mono id (hk _) h | exact h

theorem aStrs_mono {op : BinOp} {x y : List UInt8} {K K' : AV → Prop} (hk : ∀ v, K v → K' v) (h : aStrs op x y K) : aStrs op x y K' := by
  cases op <;> simp only [aStrs] at * <;> first | exact hk _ h | exact ite_mono (hk _) id h | exact h

theorem aEqF_mono {eq : TypeId → AV → AV → (Bool → Prop) → Prop} (he : ∀ t x y (K K' : Bool → Prop), (∀ b, K b → K' b) → eq t x y K → eq t x y K') {xs ys : List AV} : ∀ (fs : List Field) {K K' : Bool → Prop}, (∀ b, K b → K' b) → aEqF P eq xs ys fs K → aEqF P eq xs ys fs K'
  | [], _, _, hk, h => hk _ h
  | f :: fs, K, K', hk, h => guardR_mono (fun h => partOf_mono (fun _ h => partOf_mono (fun _ h => he _ _ _ _ _ (fun _ h => aEqF_mono he fs (fun _ h => hk _ h) h) h) h) h) h

theorem aEqT_mono : ∀ (d : Nat) (t : TypeId) (x y : AV) (K K' : Bool → Prop), (∀ b, K b → K' b) → aEqT P d t x y K → aEqT P d t x y K'
  | 0, _, _, _, _, _, _, h => h
  | d + 1, t, x, y, K, K', hk, h => by
    unfold aEqT at *
    split at *
    · exact chkBool_mono (fun _ h => chkBool_mono (fun _ h => hk _ h) h) h
    · exact chkInt_mono (fun _ h => chkInt_mono (fun _ h => hk _ h) h) h
    · exact chkStr_mono (fun _ h => chkStr_mono (fun _ h => hk _ h) h) h
    · split at *
      · exact guardR_mono (fun h => aEqF_mono (aEqT_mono d) _ hk h) h
      · exact h
    · exact h

theorem chkPtr_mono {v : AV} {K K' : Option (Nat × Nat) → Prop} (hk : ∀ a, K a → K' a) (h : chkPtr v K) : chkPtr v K' := by
  rw [chkPtr_iff] at *; obtain ⟨a, h1, h2⟩ := h; exact ⟨a, h1, hk a h2⟩
theorem chkMap_mono {v : AV} {K K' : Option Nat → Prop} (hk : ∀ a, K a → K' a) (h : chkMap v K) : chkMap v K' := by
  rw [chkMap_iff] at *; obtain ⟨a, h1, h2⟩ := h; exact ⟨a, h1, hk a h2⟩
theorem eqNil_mono {α : Type} {a b : Option α} {K K' : Bool → Prop} (hk : ∀ r, K r → K' r) (h : eqNil a b K) : eqNil a b K' := by
  cases b with
  | none => exact hk _ h
  | some b =>
    cases a with
    | none => exact hk _ h
    | some a => exact h.elim

theorem aBin_mono {op : BinOp} {t : TypeId} {x y : AV} {K K' : AV → Prop} (hk : ∀ v, K v → K' v) (h : aBin P op t x y K) : aBin P op t x y K' := by
  unfold aBin at h ⊢
  split at h
  all_goals (try simp only [])
  all_goals first
    | exact h.elim
    | exact ite_mono id (hk _) h
    | exact ite_mono (hk _) id h
    | exact ite_mono (fun h => eqNil_mono (fun _ h => hk _ h) h) id h
    | exact ite_mono (fun h => aInts_mono hk h) id h
    | exact aStrs_mono hk h
    | exact guardR_mono (fun h => aEqT_mono _ _ _ _ _ _ (fun _ h => hk _ h) h) h


theorem aUn_mono {op : UnOp} {x : AV} {K K' : AV → Prop} (hk : ∀ v, K v → K' v) (h : aUn op x K) : aUn op x K' := by
  unfold aUn at h ⊢
  split at h <;> first | exact h.elim | exact hk _ h

theorem aBounds_mono {n c : Nat} {lo hi : Option AV} {K K' : Nat → Nat → Prop} (hk : ∀ l h, K l h → K' l h) (h : aBounds n c lo hi K) : aBounds n c lo hi K' := by
  unfold aBounds at h ⊢
  split at h
  · refine chkNum_mono (fun _ h => ite_mono (fun h => ?_) id h) h
    split at h
    · exact chkNum_mono (fun _ h => ite_mono (hk _ _) id h) h
    · exact hk _ _ h
  · split at h
    · exact chkNum_mono (fun _ h => ite_mono (hk _ _) id h) h
    · exact hk _ _ h

theorem aSlice_mono {t : TypeId} {x : AV} {lo hi mx : Option AV} {K K' : AV → Prop} (hk : ∀ v, K v → K' v) (h : aSlice P t x lo hi mx K) : aSlice P t x lo hi mx K' := by
  rw [aSlice_eq0] at h ⊢
  unfold aSlice0 at h ⊢
  split at h
  · split at h
    · exact h
    · exact aBounds_mono (fun _ _ h => hk _ h) h
  · refine guardR_mono (fun h => ?_) h
    split at h
    · exact guardR_mono (fun h => chkNum_mono (fun _ h => ite_mono (fun h => aBounds_mono (fun _ _ h => hk _ h) h) id h) h) h
    · exact aBounds_mono (fun _ _ h => hk _ h) h
  · refine guardR_mono (fun h => ?_) h
    split at h
    · exact guardR_mono (fun h => chkNum_mono (fun _ h => ite_mono (fun h => aBounds_mono (fun _ _ h => hk _ h) h) id h) h) h
    · exact aBounds_mono (fun _ _ h => guardR_mono (fun h => hk _ h) h) h
  · split at h
    · exact guardR_mono (fun h => aBounds_mono (fun _ _ h => hk _ h) h) h
    · exact h.elim
  · split at h
    · exact guardR_mono (fun h => aBounds_mono (fun _ _ h => hk _ h) h) h
    · exact h.elim
  · exact h.elim

theorem aBuild_mono {t : TypeId} {ps : List (Nat × AV)} {K K' : AV → Prop} (hk : ∀ v, K v → K' v) (h : aBuild P t ps K) : aBuild P t ps K' := by
  unfold aBuild at h ⊢
  refine zeroOf_mono (fun z h => ?_) h
  split at h
  · exact guardR_mono (fun h => ob_mono (fun _ _ h => hk _ h) h) h
  · exact guardR_mono (fun h => ob_mono (fun _ _ h => hk _ h) h) h
  · exact h.elim

theorem aMinMaxFrom_mono (mx : Bool) (k : IntKind) {K K' : AV → Prop} (hk : ∀ v, K v → K' v) : ∀ (l : List AV) (a : Int), aMinMaxFrom mx k a l K → aMinMaxFrom mx k a l K'
  | [], _, h => hk _ h
  | y :: l, a, h => by
    unfold aMinMaxFrom at h ⊢
    split at h
    · exact ite_mono (fun h => aMinMaxFrom_mono mx k hk l _ h) id h
    · exact h.elim

theorem aMinMax_mono {mx : Bool} {l : List AV} {K K' : AV → Prop} (hk : ∀ v, K v → K' v) (h : aMinMax mx l K) : aMinMax mx l K' := by
  unfold aMinMax at h ⊢
  split at h
  · exact aMinMaxFrom_mono mx _ hk _ _ h
  · exact h.elim

theorem aPure_mono {o : Oper} {env : List AV} {K K' : AV → Prop} (hk : ∀ v, K v → K' v) (h : aPure P o env K) : aPure P o env K' := by
  obtain ⟨dst, op, type, pos, after, guard⟩ := o
  unfold aPure at h ⊢
  cases op <;> simp only at h ⊢ <;> try exact h.elim
  case move x => exact hk _ h
  case assign x => exact hk _ h
  case pick c x y =>
    refine chkBool_mono (fun b h => ?_) h
    cases b <;> exact hk _ h
  case nilCheck x =>
    split at h
    · exact ob_mono (fun _ _ h => hk _ h) h
    · exact hk _ h
    · exact h.elim
  case fieldAddr s x f =>
    refine chkPtr_mono (fun p h => ob_mono (fun a _ h => ?_) h) h
    split at h
    · exact ob_mono (fun _ _ h => ite_mono id (hk _) h) h
    · exact h.elim
  case indexAddr t x i =>
    refine chkNum_mono (fun n h => ?_) h
    split at h
    · exact chkPtr_mono (fun p h => ob_mono (fun a _ h => guardR_mono (fun h => ite_mono (hk _) id h) h) h) h
    · exact chkSl_mono (fun p h => ob_mono (fun a _ h => guardR_mono (fun h => ite_mono (hk _) id h) h) h) h
    · exact h.elim
  case index t x i =>
    refine chkNum_mono (fun n h => ?_) h
    split at h
    · exact ite_mono (fun h => ob_mono (fun _ _ h => hk _ h) h) id h
    · exact guardR_mono (fun h => ite_mono (fun h => partOf_mono hk h) id h) h
    · exact h.elim
  case field t x f =>
    split at h
    · exact ob_mono (fun _ _ h => guardR_mono (fun h => partOf_mono hk h) h) h
    · exact h.elim
  case binOp op t x y yt => exact aBin_mono hk h
  case unOp op t x => exact aUn_mono hk h
  case convert s d x =>
    split at h
    · exact hk _ h
    · exact hk _ h
    · exact h.elim
  case makeFunc fn first captured =>
    split at h
    · exact hk _ h
    · exact h.elim
  case extract t i =>
    split at h
    · exact ob_mono (fun _ _ h => chkT_mono hk h) h
    · exact h.elim
  case build t parts => exact aBuild_mono hk h
  case slice t x lo hi mx => exact aSlice_mono hk h
  case call c =>
    split at h
    · split at h
      · split at h <;> first | exact hk _ h | exact h.elim
      · exact h.elim
    · exact aMinMax_mono hk h
    · exact aMinMax_mono hk h
    · exact h.elim

theorem findEnt_mono {t : TypeId} {k : AV} : ∀ (es : List MEnt) {K K' : Option MEnt → Prop}, (∀ v, K v → K' v) → findEnt P t k es K → findEnt P t k es K'
  | [], _, _, hk, h => hk _ h
  | e :: es, K, K', hk, h => by
    unfold findEnt at h ⊢
    refine aEqT_mono _ _ _ _ _ _ (fun b h => ?_) h
    cases b
    · exact findEnt_mono es hk h
    · exact hk _ h

theorem findIx_mono {t : TypeId} {k : AV} : ∀ (es : List MEnt) (i : Nat) {K K' : Option Nat → Prop}, (∀ v, K v → K' v) → findIx P t k es i K → findIx P t k es i K'
  | [], _, _, _, hk, h => hk _ h
  | e :: es, i, K, K', hk, h => by
    unfold findIx at h ⊢
    refine aEqT_mono _ _ _ _ _ _ (fun b h => ?_) h
    cases b
    · exact findIx_mono es _ hk h
    · exact guardR_mono (hk _) h

theorem aKey_mono {d : Nat} {t : TypeId} {x : AV} {K K' : Prop} (hk : K → K') (h : aKey P d t x K) : aKey P d t x K' := by
  rw [aKey_iff] at h ⊢; exact ⟨h.1, hk h.2⟩

theorem aBytes_mono {h : AH} {x : Option Sl} {K K' : Req → List UInt8 → Prop} (hk : ∀ q v, K q v → K' q v) (hh : aBytes h x K) : aBytes h x K' := by
  unfold aBytes at hh ⊢
  split at hh
  · exact hk _ _ hh
  · exact ite_mono (hk _ _) (fun h => ob_mono (fun _ _ h => ob_mono (fun _ _ h => hk _ _ h) h) h) hh

theorem aRead_mono {o : Oper} {env : List AV} {h : AH} {K K' : Req → AV → Prop} (hk : ∀ q v, K q v → K' q v) (hh : aRead P o env h K) : aRead P o env h K' := by
  obtain ⟨dst, op, type, pos, after, guard⟩ := o
  unfold aRead at hh ⊢
  cases op <;> simp only at hh ⊢ <;> try exact hh.elim
  case load t x =>
    refine chkPtr_mono (fun p h => ob_mono (fun a _ h => guardR_mono (fun h => zeroOf_mono (fun z h => ?_) h) h) h) hh
    exact ite_mono (fun h => ob_mono (fun _ _ h => chkCells_mono (fun _ h => hk _ _ h) h) h) (fun h => ob_mono (fun _ _ h => chkCell_mono (fun _ h => hk _ _ h) h) h) h
  case convert s d x =>
    split at hh
    · refine ite_mono (fun hh => ?_) id hh
      split at hh
      · exact aBytes_mono (fun _ _ h => hk _ _ h) hh
      · exact hh.elim
    · exact hh.elim
  case lookup t m k ok =>
    split at hh
    · refine zeroOf_mono (fun zk hh => zeroOf_mono (fun ze hh => chkOne_mono (fun kv hh => aKey_mono (fun hh => ?_) hh) hh) hh) hh
      refine chkMap_mono (fun mm hh => ?_) hh
      cases mm with
      | none => exact hk _ _ hh
      | some r =>
        refine ob_mono (fun es _ hh => findEnt_mono _ (fun e hh => ?_) hh) hh
        cases e with
        | none => exact hk _ _ hh
        | some e => exact chkOne_mono (fun _ h => hk _ _ h) hh
    · exact hh.elim
  case call c =>
    split at hh
    · split at hh
      · split at hh
        · exact hk _ _ hh
        · exact ob_mono (fun _ _ h => hk _ _ h) hh
        · exact hh.elim
      · exact hh.elim
    · exact hh.elim

theorem aAlloc_mono {o : Oper} {env : List AV} {K K' : ABlk → (Nat → AV) → Prop} (hk : ∀ b f, K b f → K' b f) (hh : aAlloc P o env K) : aAlloc P o env K' := by
  obtain ⟨dst, op, type, pos, after, guard⟩ := o
  unfold aAlloc at hh ⊢
  cases op <;> simp only at hh ⊢ <;> try exact hh.elim
  case alloc t => exact zeroOf_mono (fun _ h => hk _ _ h) hh
  case box t x => exact chkT_mono (fun _ h => hk _ _ h) hh
  case buildSlice t len parts =>
    split at hh
    · exact ite_mono (fun h => zeroOf_mono (fun _ h => guardR_mono (fun h => ob_mono (fun _ _ h => hk _ _ h) h) h) h) id hh
    · exact hh.elim
  case makeSlice t l c =>
    split at hh
    · exact chkInt_mono (fun _ h => chkInt_mono (fun _ h => ite_mono (fun h => zeroOf_mono (fun _ h => guardR_mono (hk _ _) h) h) id h) h) hh
    · exact hh.elim
  case makeMap t r =>
    split at hh
    · exact hk _ _ hh
    · exact hh.elim
  case convert s d x =>
    split at hh
    · exact ite_mono (fun h => chkStr_mono (fun _ h => hk _ _ h) h) id hh
    · exact hh.elim

theorem aNews_mono {h : AH} {size : Nat} {x : AV} {K K' : List AV → Nat → Prop} (hk : ∀ a n, K a n → K' a n) (hh : aNews h size x K) : aNews h size x K' := by
  unfold aNews at hh ⊢
  split at hh
  · exact hk _ _ hh
  · exact ob_mono (fun _ _ h => hk _ _ h) hh
  · exact ite_mono (hk _ _) id hh
  · exact hh.elim

theorem aAppend_mono {h : AH} {size bytes : Nat} {s : Option Sl} {new : List AV} {n : Nat} {K K' : Option Sl → AH → Prop} (hk : ∀ v h, K v h → K' v h) (hh : aAppend h size bytes s new n K) : aAppend h size bytes s new n K' := by
  unfold aAppend at hh ⊢
  split at hh
  · exact ite_mono (hk _ _) (fun h => ite_mono (hk _ _) id h) hh
  · refine ite_mono (fun h => ob_mono (fun _ _ h => hk _ _ h) h) (fun h => ite_mono (fun h => ob_mono (fun _ _ h => ?_) h) id h) hh
    split at h
    · exact hk _ _ h
    · refine ite_mono (fun h => ?_) id h
      split at h
      · exact hk _ _ h
      · exact h.elim

theorem aBuiltin_mono {b : Builtin} {ts : Array TypeId} {args : List AV} {h : AH} {K K' : AV → AH → Prop} (hk : ∀ v h, K v h → K' v h) (hh : aBuiltin P b ts args h K) : aBuiltin P b ts args h K' := by
  unfold aBuiltin at hh ⊢
  cases b <;> simp only at hh ⊢ <;> try exact hh.elim
  case append =>
    split at hh
    · split at hh
      · exact guardR_mono (fun h => chkSl_mono (fun _ h => aNews_mono (fun _ _ h => zeroOf_mono (fun _ h => guardR_mono (fun h => aAppend_mono (fun _ _ h => hk _ _ h) h) h) h) h) h) hh
      · exact hh.elim
    · exact hh.elim
  case copy =>
    split at hh
    · split at hh
      · refine guardR_mono (fun h => chkSl_mono (fun s h => ?_) h) hh
        cases s with
        | none => exact aNews_mono (fun _ _ h => hk _ _ h) h
        | some d => exact aNews_mono (fun _ _ h => guardR_mono (fun h => ob_mono (fun _ _ h => hk _ _ h) h) h) h
      · exact hh.elim
    · exact hh.elim
  case clear =>
    split at hh
    · exact ite_mono (hk _ _) (fun h => zeroOf_mono (fun _ h => guardR_mono (fun h => ob_mono (fun _ _ h => hk _ _ h) h) h) h) hh
    · exact hk _ _ hh
    · exact hk _ _ hh
    · exact ob_mono (fun _ _ h => hk _ _ h) hh
    · exact hh.elim
  case delete =>
    split at hh
    · refine zeroOf_mono (fun _ h => chkOne_mono (fun _ h => aKey_mono (fun h => ob_mono (fun _ _ h => findIx_mono _ _ (fun i h => ?_) h) h) h) h) hh
      cases i <;> exact hk _ _ h
    · exact hh.elim

/-- One reading of calls is weaker than another one. -/
def CLe (C C' : CallP) : Prop := ∀ f args h K, C f args h K → C' f args h K
def LLe (L L' : LoopP) : Prop := ∀ kp c env h K, L kp c env h K → L' kp c env h K

theorem aEff_mono {C C' : CallP} (hc : CLe C C') (hm : MonoC C') {o : Oper} {env : List AV} {h : AH} {K K' : AV → AH → Prop} (hk : ∀ v h, K v h → K' v h) (hh : aEff P C o env h K) : aEff P C' o env h K' := by
  obtain ⟨dst, op, type, pos, after, guard⟩ := o
  unfold aEff at hh ⊢
  cases op <;> simp only at hh ⊢ <;> try exact hh.elim
  case store t x y =>
    exact chkPtr_mono (fun p h => ob_mono (fun a _ h => ite_mono (fun h => ob_mono (fun _ _ h => hk _ _ h) h) id h) h) hh
  case mapUpdate t m k x =>
    split at hh
    · refine zeroOf_mono (fun _ h => chkOne_mono (fun _ h => aKey_mono (fun h => chkT_mono (fun _ h => ?_) h) h) h) hh
      refine chkMap_mono (fun mm h => ob_mono (fun _ _ h => ob_mono (fun _ _ h => findIx_mono _ _ (fun i h => ?_) h) h) h) h
      cases i <;> exact hk _ _ h
    · exact hh.elim
  case range t x =>
    split at hh
    · exact hk _ _ hh
    · exact ob_mono (fun _ _ h => hk _ _ h) hh
    · exact hh.elim
  case next it s =>
    split at hh
    · cases s
      · simp only [cond_false] at hh ⊢
        split at hh
        · exact hk _ _ hh
        · refine ob_mono (fun es _ hh => ite_mono id (fun hh i hi => ?_) hh) hh
          have hh := hh i hi
          simp only at hh ⊢
          split at hh
          · exact hk _ _ hh
          · exact hk _ _ hh
          · exact hh.elim
        · exact hh.elim
      · exact hh.elim
    · exact hh.elim
  case entry it =>
    split at hh
    · split at hh
      · exact ob_mono (fun _ _ h => ob_mono (fun _ _ h => ite_mono (fun h => ob_mono (fun _ _ h => hk _ _ h) h) id h) h) hh
      · exact hh.elim
    · exact hh.elim
  case call c =>
    split at hh
    · split at hh
      · exact hm.mono _ _ _ _ _ (fun v h' h => chkT_mono (fun _ h => hk _ _ h) h) (hc _ _ _ _ hh)
      · exact hh.elim
    · exact aBuiltin_mono hk hh
    · exact hh.elim

theorem aOp_mono {C C' : CallP} (hc : CLe C C') (hm : MonoC C') {o : Oper} {slot : Option Nat} {env : List AV} {h : AH} {K K' : Req → AV → AH → Prop} (hk : ∀ q v h, K q v h → K' q v h) (hh : aOp P C o slot env h K) : aOp P C' o slot env h K' := by
  unfold aOp at hh ⊢
  split at hh
  · exact aPure_mono (fun _ h => hk _ _ _ h) hh
  · exact aRead_mono (fun _ _ h => hk _ _ _ h) hh
  · refine aAlloc_mono (fun b f hh => ?_) hh
    split at hh
    · exact hk _ _ _ hh
    · split at hh
      · exact hk _ _ _ hh
      · exact hh.elim
  · exact aEff_mono hc hm (fun _ _ h => hk _ _ _ h) hh

theorem splitB_iff {t : Bool} {v : AV} {K : AV → Prop} : splitB t v K ↔ K v := by
  unfold splitB
  cases t
  · simp
  · simp only [cond_true]
    split
    · rename_i b; cases b <;> simp
    · rfl

theorem wantedE_det {ops : List Oper} {o : Oper} {env : List AV} {K : Bool → Prop} (h : wantedE ops o env K) : ∃ t, ∀ K' : Bool → Prop, wantedE ops o env K' = K' t := by
  unfold wantedE at h ⊢
  split at h
  · exact ⟨true, fun _ => rfl⟩
  · split at h
    · split at h
      · exact ⟨_, fun _ => rfl⟩
      · exact ⟨false, fun _ => rfl⟩
      · exact h.elim
    · exact ⟨false, fun _ => rfl⟩

theorem runD_mono {C C' : CallP} (hc : CLe C C') (hm : MonoC C') {ops : List Oper} {base : Nat} : ∀ (l : List DI) (pd : List (Nat × Req)) (env : List AV) (h : AH) {K K' : List AV → AH → Prop}, (∀ e h, K e h → K' e h) → runD P C ops base l pd env h K → runD P C' ops base l pd env h K'
  | [], _, _, _, _, _, hk, h => hk _ _ h
  | d :: l, pd, env, h, K, K', hk, hh => by
    unfold runD at hh ⊢
    obtain ⟨t, ht⟩ := wantedE_det hh
    rw [ht] at hh ⊢
    cases t
    · exact runD_mono hc hm l _ _ _ hk hh
    · simp only [cond_true] at hh ⊢
      refine aOp_mono hc hm (fun q v h' hh => ?_) hh
      cases hok : oks h' d.re pd
      · rw [hok] at hh; exact hh.elim
      · rw [hok] at hh
        simp only [cond_true, splitB_iff] at hh ⊢
        exact runD_mono hc hm l _ _ _ hk hh

theorem likeC_det {z v : AV} {K : AV → Prop} (h : likeC z v K) : K v ∧ ∀ K' : AV → Prop, K' v → likeC z v K' := by
  cases z with
  | int k _ =>
    have h : chkInt k v fun n => K (.int k n) := h
    obtain ⟨n, rfl, hk⟩ := chkInt_iff.1 h
    exact ⟨hk, fun K' h' => show chkInt k _ (fun n => K' (.int k n)) from chkInt_iff.2 ⟨n, rfl, h'⟩⟩
  | bool _ =>
    have h : chkBool v fun n => K (.bool n) := h
    obtain ⟨n, rfl, hk⟩ := chkBool_iff.1 h
    exact ⟨hk, fun K' h' => show chkBool _ (fun n => K' (.bool n)) from chkBool_iff.2 ⟨n, rfl, h'⟩⟩
  | str _ =>
    have h : chkStr v fun n => K (.str n) := h
    obtain ⟨n, rfl, hk⟩ := chkStr_iff.1 h
    exact ⟨hk, fun K' h' => show chkStr _ (fun n => K' (.str n)) from chkStr_iff.2 ⟨n, rfl, h'⟩⟩
  | ptr _ =>
    have h : chkPtr v fun n => K (.ptr n) := h
    obtain ⟨n, rfl, hk⟩ := chkPtr_iff.1 h
    exact ⟨hk, fun K' h' => show chkPtr _ (fun n => K' (.ptr n)) from chkPtr_iff.2 ⟨n, rfl, h'⟩⟩
  | slice _ =>
    have h : chkSl v fun n => K (.slice n) := h
    obtain ⟨n, rfl, hk⟩ := chkSl_iff.1 h
    exact ⟨hk, fun K' h' => show chkSl _ (fun n => K' (.slice n)) from chkSl_iff.2 ⟨n, rfl, h'⟩⟩
  | map _ =>
    have h : chkMap v fun n => K (.map n) := h
    obtain ⟨n, rfl, hk⟩ := chkMap_iff.1 h
    exact ⟨hk, fun K' h' => show chkMap _ (fun n => K' (.map n)) from chkMap_iff.2 ⟨n, rfl, h'⟩⟩
  | bot => exact ⟨h, fun _ h' => h'⟩
  | fn _ _ _ => exact ⟨h, fun _ h' => h'⟩
  | nilFn => exact ⟨h, fun _ h' => h'⟩
  | agg _ => exact ⟨h, fun _ h' => h'⟩
  | tup _ => exact ⟨h, fun _ h' => h'⟩

theorem likeV_eq {z v : AV} {K : AV → Prop} (hz : ∀ zs, z ≠ .agg zs) : likeV z v K = likeC z v K := by
  cases z <;> first | rfl | exact absurd rfl (hz _)

theorem likeCs_det : ∀ {zs vs : List AV} {K : List AV → Prop}, likeCs zs vs K → K vs ∧ ∀ K' : List AV → Prop, K' vs → likeCs zs vs K'
  | [], [], _, h => ⟨h, fun _ h' => h'⟩
  | z :: zs, v :: vs, K, h => by
    unfold likeCs at h
    obtain ⟨h1, h2⟩ := likeC_det h
    obtain ⟨h3, h4⟩ := likeCs_det (K := fun vs' => K (v :: vs')) h1
    exact ⟨h3, fun K' h' => h2 _ (h4 (fun vs' => K' (v :: vs')) h')⟩
  | [], _ :: _, _, h => h.elim
  | _ :: _, [], _, h => h.elim

theorem likeV_det {z v : AV} {K : AV → Prop} (h : likeV z v K) : K v ∧ ∀ K' : AV → Prop, K' v → likeV z v K' := by
  by_cases hz : ∀ zs, z ≠ .agg zs
  · rw [likeV_eq hz] at h
    obtain ⟨h1, h2⟩ := likeC_det h
    exact ⟨h1, fun K' h' => by rw [likeV_eq hz]; exact h2 K' h'⟩
  · cases z with
    | agg zs =>
      cases v with
      | agg vs =>
        obtain ⟨h1, h2⟩ := likeCs_det (K := fun vs' => K (.agg vs')) h
        exact ⟨h1, fun K' h' => h2 (fun vs' => K' (.agg vs')) h'⟩
      | _ => exact h.elim
    | _ => exact absurd (by simp) hz

theorem after_det {d k : Nat} {env' : List AV} : ∀ {i : Nat} {vs : List AV} {K : List AV → Prop}, after d k env' i vs K → ∃ ws, K ws ∧ ∀ K' : List AV → Prop, K' ws → after d k env' i vs K'
  | _, [], _, h => ⟨[], h, fun _ h' => h'⟩
  | i, v :: vs, K, h => by
    unfold after at h
    cases hk : k.testBit i <;> simp only [hk, cond_true, cond_false] at h
    · obtain ⟨ws, h1, h2⟩ := after_det (K := fun ws => K (.bot :: ws)) h
      exact ⟨_, h1, fun K' h' => by unfold after; simp only [hk, cond_false]; exact h2 (fun ws => K' (.bot :: ws)) h'⟩
    · cases hd : d.testBit i <;> simp only [hd, cond_true, cond_false] at h
      · obtain ⟨hb, h⟩ := guardR_iff.1 h
        obtain ⟨ws, h1, h2⟩ := after_det (K := fun ws => K (v :: ws)) h
        exact ⟨_, h1, fun K' h' => by unfold after; simp only [hk, hd, cond_true, cond_false]; exact guardR_iff.2 ⟨hb, h2 (fun ws => K' (v :: ws)) h'⟩⟩
      · obtain ⟨h, hl⟩ := likeV_det h
        obtain ⟨ws, h1, h2⟩ := after_det (K := fun ws => K (env'.getD i .bot :: ws)) h
        exact ⟨_, h1, fun K' h' => by unfold after; simp only [hk, hd, cond_true]; exact hl _ (h2 (fun ws => K' (env'.getD i .bot :: ws)) h')⟩

theorem pickE_det {id : Nat} {F : Nat → Prop} : ∀ {l : List Nat}, pickE id F l → F id ∧ ∀ F' : Nat → Prop, F' id → pickE id F' l
  | [], h => h.elim
  | i :: l, h => by
    unfold pickE at h
    cases hi : id == i <;> rw [hi] at h
    · obtain ⟨h1, h2⟩ := pickE_det h
      exact ⟨h1, fun F' h' => by unfold pickE; rw [hi]; exact h2 F' h'⟩
    · have : id = i := by simpa using hi
      subst this
      exact ⟨h, fun F' h' => by unfold pickE; rw [hi]; exact h'⟩

theorem onExit_det {c : Code} {e : AEx} {F : AEx → Prop} (h : onExit c e F) : F e ∧ ∀ F' : AEx → Prop, F' e → onExit c e F' := by
  cases e with
  | normal => exact h.elim
  | ret =>
    unfold onExit at h
    cases hr : rets c <;> simp only [hr, cond_true, cond_false] at h
    · exact h.elim
    · exact ⟨h, fun F' h' => by unfold onExit; simp only [hr, cond_true]; exact h'⟩
  | exit id =>
    obtain ⟨h1, h2⟩ := pickE_det (F := fun i => F (.exit i)) h
    exact ⟨h1, fun F' h' => h2 (fun i => F' (.exit i)) h'⟩

/-- A loop's end: it has one answer. -/
theorem loopEnd_det {c : Code} {e : AEx} {d k : Nat} {env' vs : List AV} {K : AEx → List AV → Prop} (h : onExit c e fun e => after d k env' 0 vs fun ws => K e ws) :
    ∃ ws, K e ws ∧ ∀ K' : AEx → List AV → Prop, K' e ws → onExit c e fun e => after d k env' 0 vs fun ws => K' e ws := by
  obtain ⟨h1, h2⟩ := onExit_det h
  obtain ⟨ws, h3, h4⟩ := after_det h1
  exact ⟨ws, h3, fun K' h' => h2 (fun e => after d k env' 0 vs fun ws => K' e ws) (h4 (fun ws => K' e ws) h')⟩

theorem exec_mono {C C' : CallP} {L L' : LoopP} (hc : CLe C C') (hl : LLe L L') (hm : MonoC C') (hml : MonoL L') (kp : Keep) : ∀ (c : Code) (env : List AV) (h : AH) {K K' : AEx → List AV → AH → Prop}, (∀ e env h, K e env h → K' e env h) → exec P C L kp c env h K → exec P C' L' kp c env h K'
  | .skip, _, _, _, _, hk, h => hk _ _ _ h
  | .region _ ops draw, env, h, K, K', hk, hh => by
    unfold exec at hh ⊢
    cases draw
    · exact runD_mono hc hm _ _ _ _ (fun _ _ h => hk _ _ _ h) hh
    · simp only [cond_true] at hh ⊢
      split at hh
      · exact runD_mono hc hm _ _ _ _ (fun _ _ h => hk _ _ _ h) hh
      · exact hh.elim
  | .seq a b, env, h, K, K', hk, hh => by
    unfold exec at hh ⊢
    refine exec_mono hc hl hm hml kp a env h (fun e env h hh => ?_) hh
    cases e with
    | normal =>
      simp only at hh ⊢
      split at hh
      · exact hml.mono _ _ _ _ _ _ hk (hl _ _ _ _ _ hh)
      · exact exec_mono hc hl hm hml kp b _ h hk hh
    | exit id => exact hk _ _ _ hh
    | ret => exact hk _ _ _ hh
  | .cond c a b, env, h, K, K', hk, hh => by
    unfold exec at hh ⊢
    refine chkBool_mono (fun t hh => ?_) hh
    cases t
    · exact exec_mono hc hl hm hml kp b env h hk hh
    · exact exec_mono hc hl hm hml kp a env h hk hh
  | .block id c, env, h, K, K', hk, hh => by
    unfold exec at hh ⊢
    refine exec_mono hc hl hm hml kp c env h (fun e env h hh => ?_) hh
    cases e with
    | exit id' => 
      simp only at hh ⊢
      cases hid : id' == id
      · rw [hid] at hh; exact hk _ _ _ hh
      · rw [hid] at hh; exact hk _ _ _ hh
    | normal => exact hk _ _ _ hh
    | ret => exact hk _ _ _ hh
  | .loop c, env, h, K, K', hk, hh => guardR_mono (fun hh => hml.mono _ _ _ _ _ _ (fun e env h hh => by
      obtain ⟨ws, h1, h2⟩ := loopEnd_det (K := fun e ws => K e ws h) hh
      exact h2 (fun e ws => K' e ws h) (hk _ _ _ h1)) (hl _ _ _ _ _ hh)) hh
  | .scope c, env, h, _, _, hk, hh => by
    unfold exec at hh ⊢
    exact exec_mono hc hl hm hml kp c env h hk hh
  | .exit id, _, _, _, _, hk, h => hk _ _ _ h
  | .label _, _, _, _, _, hk, h => hk _ _ _ h
  | .ret, _, _, _, _, hk, h => hk _ _ _ h
  | .rangeFunc .., _, _, _, _, _, h => h.elim
  | .goto _, _, _, _, _, _, h => h.elim
  | .refuse _, _, _, _, _, _, h => h.elim

theorem lstep_mono {C C' : CallP} {L L' : LoopP} (hc : CLe C C') (hl : LLe L L') (hm : MonoC C') (hml : MonoL L') {kp : Keep} {c : Code} {env : List AV} {h : AH} {K K' : AEx → List AV → AH → Prop} (hk : ∀ e env h, K e env h → K' e env h)
    (hh : lstep P C L kp c env h K) : lstep P C' L' kp c env h K' := by
  unfold lstep at hh ⊢
  split at hh
  · exact exec_mono hc hl hm hml kp _ env h hk hh
  · refine exec_mono hc hl hm hml kp _ env h (fun e env h hh => ?_) hh
    cases e with
    | normal => exact hml.mono _ _ _ _ _ _ hk (hl _ _ _ _ _ hh)
    | exit id => exact hk _ _ _ hh
    | ret => exact hk _ _ _ hh

theorem aResults_mono {env : List AV} {h : AH} : ∀ (l : List ResultVar) {K K' : List AV → Prop}, (∀ v, K v → K' v) → aResults P env h l K → aResults P env h l K'
  | [], _, _, hk, hh => hk _ hh
  | .tmp t :: l, K, K', hk, hh => aResults_mono l (K := fun vs => K (env.getD t .bot :: vs)) (fun _ h => hk _ h) hh
  | .cell a t :: l, K, K', hk, hh => by
    unfold aResults at hh ⊢
    exact chkPtr_mono (fun p h => ob_mono (fun a _ h => guardR_mono (fun h => zeroOf_mono (fun _ h => ite_mono (fun h => ob_mono (fun _ _ h => chkCells_mono (fun _ h => aResults_mono l (fun _ h => hk _ h) h) h) h) (fun h => ob_mono (fun _ _ h => chkCell_mono (fun _ h => aResults_mono l (fun _ h => hk _ h) h) h) h) h) h) h) h) hh

theorem fstep_mono {C C' : CallP} {L L' : LoopP} (hc : CLe C C') (hl : LLe L L') (hm : MonoC C') (hml : MonoL L') {f : FuncId} {args : List AV} {h : AH} {K K' : AV → AH → Prop} (hk : ∀ v h, K v h → K' v h)
    (hh : fstep P C L M f args h K) : fstep P C' L' M f args h K' := by
  unfold fstep at hh ⊢
  refine ob_mono (fun fn _ hh => ob_mono (fun c _ hh => guardR_mono (fun hh => exec_mono hc hl hm hml _ c _ _ (fun e env h hh => ?_) hh) hh) hh) hh
  cases e with
  | normal => exact aResults_mono _ (fun _ h => hk _ _ h) hh
  | ret => exact aResults_mono _ (fun _ h => hk _ _ h) hh
  | exit id => exact hh.elim

/-! ## The least closed reading -/

theorem ACall.mono : MonoC (ACall P M) := ⟨fun f args h K K' hk hh C L hcl => hcl.mc.mono _ _ _ _ _ hk (hh C L hcl)⟩
theorem ALoop.mono : MonoL (ALoop P M) := ⟨fun kp c env h K K' hk hh C L hcl => hcl.ml.mono _ _ _ _ _ _ hk (hh C L hcl)⟩

/-- A function whose body comes to K comes to K. -/
theorem ACall.fold {f : FuncId} {args : List AV} {h : AH} {K : AV → AH → Prop} (hh : fstep P (ACall P M) (ALoop P M) M f args h K) : ACall P M f args h K :=
  fun C L hcl => hcl.call _ _ _ _ (fstep_mono (fun f args h K hc => hc C L hcl) (fun kp c env h K hl => hl C L hcl) hcl.mc hcl.ml (fun _ _ h => h) hh)

theorem ALoop.fold {kp : Keep} {c : Code} {env : List AV} {h : AH} {K : AEx → List AV → AH → Prop} (hh : lstep P (ACall P M) (ALoop P M) kp c env h K) : ALoop P M kp c env h K :=
  fun C L hcl => hcl.loop _ _ _ _ _ (lstep_mono (fun f args h K hc => hc C L hcl) (fun kp c env h K hl => hl C L hcl) hcl.mc hcl.ml (fun _ _ _ h => h) hh)

end
end Go.Abs
