/- What an operation that acts on nothing comes to is one thing, and what was read is read again. -/
import Derived.Test.YtdpecfeofcibhaaA13
namespace Go.Abs
section
variable {P : Program}

theorem ob_det {α : Type} {x : Option α} {K : α → Prop} (h : ob x K) : ∃ a, x = some a ∧ ∀ K' : α → Prop, ob x K' ↔ K' a := by
  cases x with
  | none => exact h.elim
  | some a => exact ⟨a, rfl, fun _ => Iff.rfl⟩
theorem chkNum_det {v : AV} {K : Int → Prop} (h : chkNum v K) : ∃ a, ∀ K' : Int → Prop, chkNum v K' ↔ K' a := by
  obtain ⟨k, n, rfl, _⟩ := chkNum_iff.1 h; exact ⟨n, fun _ => Iff.rfl⟩
theorem chkInt_det {k : IntKind} {v : AV} {K : Int → Prop} (h : chkInt k v K) : ∃ a, ∀ K' : Int → Prop, chkInt k v K' ↔ K' a := by
  obtain ⟨n, rfl, _⟩ := chkInt_iff.1 h; exact ⟨n, fun K' => by simp [chkInt]⟩
theorem chkBool_det {v : AV} {K : Bool → Prop} (h : chkBool v K) : ∃ a, ∀ K' : Bool → Prop, chkBool v K' ↔ K' a := by
  obtain ⟨n, rfl, _⟩ := chkBool_iff.1 h; exact ⟨n, fun _ => Iff.rfl⟩
theorem chkStr_det {v : AV} {K : List UInt8 → Prop} (h : chkStr v K) : ∃ a, ∀ K' : List UInt8 → Prop, chkStr v K' ↔ K' a := by
  obtain ⟨n, rfl, _⟩ := chkStr_iff.1 h; exact ⟨n, fun _ => Iff.rfl⟩
theorem zeroOf_det {t : TypeId} {K : Value → Prop} (h : zeroOf P t K) : ∃ a, ∀ K' : Value → Prop, zeroOf P t K' ↔ K' a := by
  obtain ⟨i, z, h1, h2, _⟩ := zeroOf_iff.1 h
  exact ⟨z, fun K' => by unfold zeroOf; rw [h1]; simp only; rw [h2]; rfl⟩
theorem guardR_det {b : Bool} {K : Prop} (h : guardR b K) : ∀ K' : Prop, guardR b K' ↔ K' := by
  obtain ⟨rfl, _⟩ := guardR_iff.1 h; exact fun _ => Iff.rfl
theorem chkCell_det {z : Value} {v : AV} {K : AV → Prop} (h : chkCell z v K) : ∀ K' : AV → Prop, chkCell z v K' ↔ K' v := fun K' =>
  ⟨chkCell_imp, fun hk => by
    cases z <;> simp only [chkCell, chkInt_iff, chkBool_iff, chkStr_iff, chkPtr_iff, chkSl_iff, chkMap_iff, chkFn_iff, Res.fail] at h ⊢
    · obtain ⟨b, rfl, _⟩ := h; exact ⟨b, rfl, hk⟩
    · obtain ⟨b, rfl, _⟩ := h; exact ⟨b, rfl, hk⟩
    · obtain ⟨b, rfl, _⟩ := h; exact ⟨b, rfl, hk⟩
    · obtain ⟨b, rfl, _⟩ := h; exact ⟨b, rfl, hk⟩
    · obtain ⟨b, rfl, _⟩ := h; exact ⟨b, rfl, hk⟩
    · obtain ⟨b, rfl, _⟩ := h; exact ⟨b, rfl, hk⟩
    · obtain ⟨f, a, c, rfl, _⟩ := h; exact ⟨f, a, c, rfl, hk⟩⟩
theorem chkCells_det : ∀ {zs : List Value} {vs : List AV} {K : List AV → Prop}, chkCells zs vs K → ∀ K' : List AV → Prop, chkCells zs vs K' ↔ K' vs
  | [], [], _, _, _ => Iff.rfl
  | z :: zs, v :: vs, K, h, K' => by
    have h : chkCell z v fun v' => chkCells zs vs fun vs' => K (v' :: vs') := h
    have h1 := chkCell_imp h
    have h2 := chkCell_det h
    show (chkCell z v fun v' => chkCells zs vs fun vs' => K' (v' :: vs')) ↔ _
    rw [h2]
    exact chkCells_det h1 _
  | [], _ :: _, _, h, _ => h.elim
  | _ :: _, [], _, h, _ => h.elim
theorem chkOne_det {z : Value} {v : AV} {K : AV → Prop} (h : chkOne z v K) (K' : AV → Prop) : chkOne z v K' ↔ K' v := by
  unfold chkOne at h ⊢
  split at h
  · split at h
    · exact chkCells_det h _
    · exact h.elim
  · exact chkCell_det h _
theorem chkOnes_det : ∀ {zs : List Value} {vs : List AV} {K : List AV → Prop}, chkOnes zs vs K → ∀ K' : List AV → Prop, chkOnes zs vs K' ↔ K' vs
  | [], [], _, _, _ => Iff.rfl
  | z :: zs, v :: vs, K, h, K' => by
    have h : chkOne z v fun v' => chkOnes zs vs fun vs' => K (v' :: vs') := h
    have h1 := chkOne_imp h
    show (chkOne z v fun v' => chkOnes zs vs fun vs' => K' (v' :: vs')) ↔ _
    rw [chkOne_det h]
    exact chkOnes_det (K := fun vs' => K (v :: vs')) h1 _
  | [], _ :: _, _, h, _ => h.elim
  | _ :: _, [], _, h, _ => h.elim
theorem chkT_det {t : TypeId} {v : AV} {K : AV → Prop} (h : chkT P t v K) (K' : AV → Prop) : chkT P t v K' ↔ K' v := by
  unfold chkT at h ⊢
  obtain ⟨z, hz⟩ := zeroOf_det h
  rw [hz] at h ⊢
  unfold chkZ at h ⊢
  split at h
  · split at h
    · exact chkOnes_det h _
    · exact h.elim
  · exact chkOne_det h _
theorem partOf_det {a : Bool} {n : Nat} {cs : List AV} {o : Nat} {K : AV → Prop} (h : partOf a n cs o K) : ∃ v, ∀ K' : AV → Prop, partOf a n cs o K' ↔ K' v := by
  unfold partOf at h ⊢
  cases a
  · simp only [Bool.false_eq_true, if_false] at h ⊢
    obtain ⟨v, _, hv⟩ := ob_det h; exact ⟨v, hv⟩
  · simp only [if_true] at h ⊢
    obtain ⟨hc, _⟩ := ite_fail.1 h
    simp only [if_pos hc]
    exact ⟨_, fun _ => Iff.rfl⟩
theorem aEqF_det {eq : TypeId → AV → AV → (Bool → Prop) → Prop} (he : ∀ t x y (K : Bool → Prop), eq t x y K → ∃ b, ∀ K' : Bool → Prop, eq t x y K' ↔ K' b) {xs ys : List AV} : ∀ (fs : List Field) {K : Bool → Prop}, aEqF P eq xs ys fs K → ∃ b, ∀ K' : Bool → Prop, aEqF P eq xs ys fs K' ↔ K' b
  | [], _, _ => ⟨true, fun _ => Iff.rfl⟩
  | f :: fs, K, h => by
    unfold aEqF at h ⊢
    have hg := guardR_det h
    simp only [hg] at h ⊢
    obtain ⟨x, hx⟩ := partOf_det h
    simp only [hx] at h ⊢
    obtain ⟨y, hy⟩ := partOf_det h
    simp only [hy] at h ⊢
    obtain ⟨b, hb⟩ := he _ _ _ _ h
    simp only [hb] at h ⊢
    obtain ⟨c, hc⟩ := aEqF_det he fs h
    exact ⟨b && c, fun K' => hc _⟩
theorem aEqT_det : ∀ (d : Nat) (t : TypeId) (x y : AV) (K : Bool → Prop), aEqT P d t x y K → ∃ b, ∀ K' : Bool → Prop, aEqT P d t x y K' ↔ K' b
  | 0, _, _, _, _, h => h.elim
  | d + 1, t, x, y, K, h => by
    unfold aEqT at h ⊢
    split at h
    · obtain ⟨a, ha⟩ := chkBool_det h
      simp only [ha] at h ⊢
      obtain ⟨b, hb⟩ := chkBool_det h
      exact ⟨_, fun K' => hb _⟩
    · obtain ⟨a, ha⟩ := chkInt_det h
      simp only [ha] at h ⊢
      obtain ⟨b, hb⟩ := chkInt_det h
      exact ⟨_, fun K' => hb _⟩
    · obtain ⟨a, ha⟩ := chkStr_det h
      simp only [ha] at h ⊢
      obtain ⟨b, hb⟩ := chkStr_det h
      exact ⟨_, fun K' => hb _⟩
    · split at h
      · have hg := guardR_det h
        simp only [hg] at h ⊢
        exact aEqF_det (aEqT_det d) _ h
      · exact h.elim
    · exact h.elim
theorem aInts_det {op : BinOp} {k : IntKind} {x y : Int} {K : AV → Prop} (h : aInts op k x y K) : ∃ v, ∀ K' : AV → Prop, aInts op k x y K' ↔ K' v := by
  cases op <;> simp only [aInts, aIntBits] at h ⊢ <;> first
    | exact h.elim
    | exact ⟨_, fun _ => Iff.rfl⟩
    | (obtain ⟨hc, _⟩ := ite_fail'.1 h; simp only [if_neg hc]; exact ⟨_, fun _ => Iff.rfl⟩)

theorem aStrs_det {op : BinOp} {x y : List UInt8} {K : AV → Prop} (h : aStrs op x y K) : ∃ v, ∀ K' : AV → Prop, aStrs op x y K' ↔ K' v := by
  cases op <;> simp only [aStrs] at h ⊢ <;> first
    | exact h.elim
    | exact ⟨_, fun _ => Iff.rfl⟩
    | (obtain ⟨hc, _⟩ := ite_fail.1 h; simp only [if_pos hc]; exact ⟨_, fun _ => Iff.rfl⟩)

theorem eqNil_det {α : Type} {a b : Option α} {K : Bool → Prop} (h : eqNil a b K) : ∃ r, ∀ K' : Bool → Prop, eqNil a b K' ↔ K' r := by
  cases b with
  | none => exact ⟨_, fun _ => Iff.rfl⟩
  | some b =>
    cases a with
    | none => exact ⟨_, fun _ => Iff.rfl⟩
    | some a => exact h.elim

theorem chkPtr_some {a : Nat × Nat} {F : Nat × Nat → Prop} : (chkPtr (.ptr (some a)) fun p => ob p F) = F a := rfl
theorem chkSl_some {a : Sl} {F : Sl → Prop} : (chkSl (.slice (some a)) fun p => ob p F) = F a := rfl

theorem aBin_det {op : BinOp} {t : TypeId} {x y : AV} {K : AV → Prop} (h : aBin P op t x y K) : ∃ v, ∀ K' : AV → Prop, aBin P op t x y K' ↔ K' v := by
  unfold aBin at h ⊢
  split at h
  case h_3 => obtain ⟨hc, h⟩ := ite_fail.1 h; simp only [if_pos hc]; exact aInts_det h
  case h_4 => exact aStrs_det h
  all_goals first
    | exact h.elim
    | (obtain ⟨hc, h⟩ := ite_fail.1 h; simp only [if_pos hc]; obtain ⟨r, hr⟩ := eqNil_det h; exact ⟨_, fun K' => hr _⟩)
    | (obtain ⟨hc, _⟩ := ite_fail.1 h; simp only [if_pos hc]; exact ⟨_, fun _ => Iff.rfl⟩)
    | (obtain ⟨hc, _⟩ := ite_fail'.1 h; simp only [if_neg hc]; exact ⟨_, fun _ => Iff.rfl⟩)
    | (have hg := guardR_det h; simp only [hg] at h ⊢; obtain ⟨b, hb⟩ := aEqT_det _ _ _ _ _ h; exact ⟨_, fun K' => hb _⟩)

theorem aBounds_det {n c : Nat} {lo hi : Option AV} {K : Nat → Nat → Prop} (h : aBounds n c lo hi K) : ∃ l r, ∀ K' : Nat → Nat → Prop, aBounds n c lo hi K' ↔ K' l r := by
  unfold aBounds at h ⊢
  split at h
  · obtain ⟨b, hb⟩ := chkNum_det h
    simp only [hb] at h ⊢
    obtain ⟨hc, h⟩ := ite_fail.1 h
    simp only [if_pos hc]
    split at h
    · obtain ⟨a, ha⟩ := chkNum_det h
      simp only [ha] at h ⊢
      obtain ⟨hc, h⟩ := ite_fail.1 h
      simp only [if_pos hc]
      exact ⟨_, _, fun _ => Iff.rfl⟩
    · exact ⟨_, _, fun _ => Iff.rfl⟩
  · split at h
    · obtain ⟨a, ha⟩ := chkNum_det h
      simp only [ha] at h ⊢
      obtain ⟨hc, h⟩ := ite_fail.1 h
      simp only [if_pos hc]
      exact ⟨_, _, fun _ => Iff.rfl⟩
    · exact ⟨_, _, fun _ => Iff.rfl⟩

theorem aSlice_det {t : TypeId} {x : AV} {lo hi mx : Option AV} {K : AV → Prop} (h : aSlice P t x lo hi mx K) : ∃ v, ∀ K' : AV → Prop, aSlice P t x lo hi mx K' ↔ K' v := by
  simp only [aSlice_eq0] at h ⊢
  unfold aSlice0 at h ⊢
  split at h
  · split at h
    · exact h.elim
    · obtain ⟨l, r, hl⟩ := aBounds_det h; exact ⟨_, fun K' => hl _⟩
  · have hg := guardR_det h
    simp only [hg] at h ⊢
    split at h
    · have hg := guardR_det h
      simp only [hg] at h ⊢
      obtain ⟨m, hm⟩ := chkNum_det h
      simp only [hm] at h ⊢
      obtain ⟨hc, h⟩ := ite_fail.1 h
      simp only [if_pos hc]
      obtain ⟨l, r, hl⟩ := aBounds_det h; exact ⟨_, fun K' => hl _⟩
    · obtain ⟨l, r, hl⟩ := aBounds_det h; exact ⟨_, fun K' => hl _⟩
  · have hg := guardR_det h
    simp only [hg] at h ⊢
    split at h
    · have hg := guardR_det h
      simp only [hg] at h ⊢
      obtain ⟨m, hm⟩ := chkNum_det h
      simp only [hm] at h ⊢
      obtain ⟨hc, h⟩ := ite_fail.1 h
      simp only [if_pos hc]
      obtain ⟨l, r, hl⟩ := aBounds_det h; exact ⟨_, fun K' => hl _⟩
    · obtain ⟨l, r, hl⟩ := aBounds_det h
      simp only [hl] at h ⊢
      have hg := guardR_det h
      simp only [hg]
      exact ⟨_, fun _ => Iff.rfl⟩
  · split at h
    · have hg := guardR_det h
      simp only [hg] at h ⊢
      obtain ⟨l, r, hl⟩ := aBounds_det h; exact ⟨_, fun K' => hl _⟩
    · exact h.elim
  · split at h
    · have hg := guardR_det h
      simp only [hg] at h ⊢
      obtain ⟨l, r, hl⟩ := aBounds_det h; exact ⟨_, fun K' => hl _⟩
    · exact h.elim
  · exact h.elim

theorem aBuild_det {t : TypeId} {ps : List (Nat × AV)} {K : AV → Prop} (h : aBuild P t ps K) : ∃ v, ∀ K' : AV → Prop, aBuild P t ps K' ↔ K' v := by
  unfold aBuild at h ⊢
  obtain ⟨z, hz⟩ := zeroOf_det h
  simp only [hz] at h ⊢
  split at h
  · have hg := guardR_det h
    simp only [hg] at h ⊢
    obtain ⟨c, _, hc⟩ := ob_det h; exact ⟨_, fun K' => hc _⟩
  · have hg := guardR_det h
    simp only [hg] at h ⊢
    obtain ⟨c, _, hc⟩ := ob_det h; exact ⟨_, fun K' => hc _⟩
  · exact h.elim

theorem aMinMaxFrom_det (mx : Bool) (k : IntKind) {K : AV → Prop} : ∀ (l : List AV) (a : Int), aMinMaxFrom mx k a l K → ∃ v, ∀ K' : AV → Prop, aMinMaxFrom mx k a l K' ↔ K' v
  | [], _, _ => ⟨_, fun _ => Iff.rfl⟩
  | y :: l, a, h => by
    unfold aMinMaxFrom at h ⊢
    split at h
    · obtain ⟨hc, h⟩ := ite_fail.1 h
      simp only [if_pos hc]
      exact aMinMaxFrom_det mx k l _ h
    · exact h.elim

theorem aMinMax_det {mx : Bool} {l : List AV} {K : AV → Prop} (h : aMinMax mx l K) : ∃ v, ∀ K' : AV → Prop, aMinMax mx l K' ↔ K' v := by
  unfold aMinMax at h ⊢
  split at h
  · exact aMinMaxFrom_det mx _ _ _ h
  · exact h.elim

theorem aPure_det {o : Oper} {env : List AV} {K : AV → Prop} (h : aPure P o env K) : ∃ v, ∀ K' : AV → Prop, aPure P o env K' ↔ K' v := by
  obtain ⟨dst, op, type, pos, after, guard⟩ := o
  unfold aPure at h ⊢
  cases op <;> simp only at h ⊢ <;> try exact h.elim
  case move x => exact ⟨_, fun _ => Iff.rfl⟩
  case assign x => exact ⟨_, fun _ => Iff.rfl⟩
  case pick c x y =>
    obtain ⟨b, hb⟩ := chkBool_det h
    simp only [hb] at h ⊢
    cases b <;> exact ⟨_, fun _ => Iff.rfl⟩
  case nilCheck x =>
    split at h
    · obtain ⟨a, _, ha⟩ := ob_det h; exact ⟨_, fun K' => ha _⟩
    · exact ⟨_, fun _ => Iff.rfl⟩
    · exact h.elim
  case fieldAddr s x f =>
    replace h := chkPtr_iff.1 h
    obtain ⟨q, hq, h⟩ := h
    replace h := ob_iff.1 h
    obtain ⟨ad, rfl, h⟩ := h
    simp only [hq, chkPtr_some]
    split at h
    · obtain ⟨a, _, ha⟩ := ob_det h
      simp only [ha] at h ⊢
      obtain ⟨hc, h⟩ := ite_fail'.1 h
      simp only [if_neg hc]
      exact ⟨_, fun _ => Iff.rfl⟩
    · exact h.elim
  case indexAddr t x i =>
    obtain ⟨n, hn⟩ := chkNum_det h
    simp only [hn] at h ⊢
    split at h
    · replace h := chkPtr_iff.1 h
      obtain ⟨q, hq, h⟩ := h
      replace h := ob_iff.1 h
      obtain ⟨ad, rfl, h⟩ := h
      simp only [hq, chkPtr_some]
      have hg := guardR_det h
      simp only [hg] at h ⊢
      obtain ⟨hc, h⟩ := ite_fail.1 h
      simp only [if_pos hc]
      exact ⟨_, fun _ => Iff.rfl⟩
    · replace h := chkSl_iff.1 h
      obtain ⟨q, hq, h⟩ := h
      replace h := ob_iff.1 h
      obtain ⟨ad, rfl, h⟩ := h
      simp only [hq, chkSl_some]
      have hg := guardR_det h
      simp only [hg] at h ⊢
      obtain ⟨hc, h⟩ := ite_fail.1 h
      simp only [if_pos hc]
      exact ⟨_, fun _ => Iff.rfl⟩
    · exact h.elim
  case index t x i =>
    obtain ⟨n, hn⟩ := chkNum_det h
    simp only [hn] at h ⊢
    split at h
    · obtain ⟨hc, h⟩ := ite_fail.1 h
      simp only [if_pos hc]
      obtain ⟨a, _, ha⟩ := ob_det h; exact ⟨_, fun K' => ha _⟩
    · have hg := guardR_det h
      simp only [hg] at h ⊢
      obtain ⟨hc, h⟩ := ite_fail.1 h
      simp only [if_pos hc]
      exact partOf_det h
    · exact h.elim
  case field t x f =>
    split at h
    · obtain ⟨a, _, ha⟩ := ob_det h
      simp only [ha] at h ⊢
      have hg := guardR_det h
      simp only [hg] at h ⊢
      exact partOf_det h
    · exact h.elim
  case binOp op t x y yt => exact aBin_det h
  case unOp op t x =>
    unfold aUn at h ⊢
    split at h <;> first | exact h.elim | exact ⟨_, fun _ => Iff.rfl⟩
  case convert s d x =>
    split at h
    · exact ⟨_, fun _ => Iff.rfl⟩
    · exact ⟨_, fun _ => Iff.rfl⟩
    · exact h.elim
  case makeFunc fn first captured =>
    split at h
    · exact ⟨_, fun _ => Iff.rfl⟩
    · exact h.elim
  case extract t i =>
    split at h
    · obtain ⟨a, _, ha⟩ := ob_det h
      simp only [ha] at h ⊢
      exact ⟨_, fun K' => chkT_det h _⟩
    · exact h.elim
  case build t parts => exact aBuild_det h
  case slice t x lo hi mx => exact aSlice_det h
  case call c =>
    split at h
    · split at h
      · split at h <;> first | exact ⟨_, fun _ => Iff.rfl⟩ | exact h.elim
      · exact h.elim
    · exact aMinMax_det h
    · exact aMinMax_det h
    · exact h.elim

theorem aAlloc_det {o : Oper} {env : List AV} {K : ABlk → (Nat → AV) → Prop} (hh : aAlloc P o env K) : ∃ b f, ∀ K' : ABlk → (Nat → AV) → Prop, aAlloc P o env K' ↔ K' b f := by
  obtain ⟨dst, op, type, pos, after, guard⟩ := o
  unfold aAlloc at hh ⊢
  cases op <;> simp only at hh ⊢ <;> try exact hh.elim
  case alloc t =>
    obtain ⟨z, hz⟩ := zeroOf_det hh
    exact ⟨_, _, fun K' => hz _⟩
  case box t x => exact ⟨_, _, fun K' => chkT_det hh _⟩
  case buildSlice t len parts =>
    split at hh
    · obtain ⟨hc, hh⟩ := ite_fail.1 hh
      simp only [if_pos hc]
      obtain ⟨z, hz⟩ := zeroOf_det hh
      simp only [hz] at hh ⊢
      have hg := guardR_det hh
      simp only [hg] at hh ⊢
      obtain ⟨a, _, ha⟩ := ob_det hh; exact ⟨_, _, fun K' => ha _⟩
    · exact hh.elim
  case makeSlice t l c =>
    split at hh
    · obtain ⟨a, ha⟩ := chkInt_det hh
      simp only [ha] at hh ⊢
      obtain ⟨b, hb⟩ := chkInt_det hh
      simp only [hb] at hh ⊢
      obtain ⟨hc, hh⟩ := ite_fail.1 hh
      simp only [if_pos hc]
      obtain ⟨z, hz⟩ := zeroOf_det hh
      simp only [hz] at hh ⊢
      have hg := guardR_det hh
      simp only [hg]
      exact ⟨_, _, fun _ => Iff.rfl⟩
    · exact hh.elim
  case makeMap t r =>
    split at hh
    · exact ⟨_, _, fun _ => Iff.rfl⟩
    · exact hh.elim
  case convert s d x =>
    split at hh
    · obtain ⟨hc, hh⟩ := ite_fail.1 hh
      simp only [if_pos hc]
      obtain ⟨a, ha⟩ := chkStr_det hh
      exact ⟨_, _, fun K' => ha _⟩
    · exact hh.elim

mutual
theorem AV.beq_eq : ∀ (a b : AV), AV.beq a b = true → a = b
  | .bool a, b, h => by cases b <;> simp [AV.beq] at h; rw [h]
  | .int k n, b, h => by cases b <;> simp [AV.beq] at h; rw [h.1, h.2]
  | .str a, b, h => by cases b <;> simp [AV.beq] at h; rw [h]
  | .ptr a, b, h => by cases b <;> simp [AV.beq] at h; rw [h]
  | .slice a, b, h => by cases b <;> simp [AV.beq] at h; rw [h]
  | .map a, b, h => by cases b <;> simp [AV.beq] at h; rw [h]
  | .fn f a c, b, h => by
    cases b <;> simp [AV.beq] at h
    rw [h.1.1, AV.beqs_eq _ _ h.1.2, AV.beqs_eq _ _ h.2]
  | .nilFn, b, h => by cases b <;> simp [AV.beq] at h; rfl
  | .agg a, b, h => by
    cases b <;> simp [AV.beq] at h
    rw [AV.beqs_eq _ _ h]
  | .tup a, b, h => by
    cases b <;> simp [AV.beq] at h
    rw [AV.beqs_eq _ _ h]
  | .bot, b, h => by cases b <;> simp [AV.beq] at h; rfl
theorem AV.beqs_eq : ∀ (a b : List AV), AV.beqs a b = true → a = b
  | [], [], _ => rfl
  | a :: as, b :: bs, h => by
    simp only [AV.beqs, Bool.and_eq_true] at h
    rw [AV.beq_eq _ _ h.1, AV.beqs_eq _ _ h.2]
  | [], _ :: _, h => by simp [AV.beqs] at h
  | _ :: _, [], h => by simp [AV.beqs] at h
end

theorem MEnt.beqs_eq : ∀ (a b : List MEnt), MEnt.beqs a b = true → a = b
  | [], [], _ => rfl
  | a :: as, b :: bs, h => by
    simp only [MEnt.beqs, Bool.and_eq_true, beq_iff_eq] at h
    obtain ⟨⟨⟨h1, h2⟩, h3⟩, h4⟩ := h
    have h1 := AV.beq_eq _ _ h1
    have h2 := AV.beq_eq _ _ h2
    rw [MEnt.beqs_eq _ _ h4]
    cases a; cases b; simp_all
  | [], _ :: _, h => by simp [MEnt.beqs] at h
  | _ :: _, [], h => by simp [MEnt.beqs] at h

/-- What was read is read again where it lies still. -/
theorem aRead_again {o : Oper} {env : List AV} {h : AH} {K : Req → AV → Prop} (hh : aRead P o env h K) : ∃ q v, K q v ∧ ∀ h2, (q.ok h2 = true ∨ h2 = h) → ∀ K' : Req → AV → Prop, K' q v → aRead P o env h2 K' := by
  obtain ⟨dst, op, type, pos, after, guard⟩ := o
  have hcells : ∀ {h2 : AH} {i o n : Nat} {cs : List AV}, h.cellsAt i o n = some cs → ((Req.cells i o n cs).ok h2 = true ∨ h2 = h) → h2.cellsAt i o n = some cs := by
    intro h2 i o n cs hc hq
    rcases hq with hq | rfl
    · simp only [Req.ok] at hq
      split at hq
      · rename_i ds hd; rw [hd, AV.beqs_eq _ _ hq]
      · cases hq
    · exact hc
  have hmaps : ∀ {h2 : AH} {r : Nat} {es : List MEnt} {ck : Nat}, h.mapAt r = some (es, ck) → ((Req.map (some r) es).ok h2 = true ∨ h2 = h) → ∃ ck', h2.mapAt r = some (es, ck') := by
    intro h2 r es ck hc hq
    rcases hq with hq | rfl
    · simp only [Req.ok] at hq
      split at hq
      · rename_i ds c hd; exact ⟨c, by rw [hd, MEnt.beqs_eq _ _ hq]⟩
      · cases hq
    · exact ⟨_, hc⟩
  unfold aRead at hh ⊢
  cases op <;> simp only at hh ⊢ <;> try exact hh.elim
  case load t x =>
    replace hh := chkPtr_iff.1 hh
    obtain ⟨q, hq, hh⟩ := hh
    replace hh := ob_iff.1 hh
    obtain ⟨ad, rfl, hh⟩ := hh
    simp only [hq, chkPtr_some]
    have hg := guardR_det hh
    simp only [hg] at hh ⊢
    obtain ⟨z, hz⟩ := zeroOf_det hh
    simp only [hz] at hh ⊢
    split at hh
    · rename_i hag
      simp only [if_pos hag]
      obtain ⟨cs, hc, hk⟩ := ob_iff.1 hh
      have hd := chkCells_det hk
      rw [hd] at hk
      refine ⟨_, _, hk, fun h2 hq K' hk' => ob_iff.2 ⟨cs, hcells hc hq, (hd _).2 hk'⟩⟩
    · rename_i hag
      simp only [if_neg hag]
      obtain ⟨v, hc, hk⟩ := ob_iff.1 hh
      have hd := chkCell_det hk
      rw [hd] at hk
      refine ⟨_, _, hk, fun h2 hq K' hk' => ?_⟩
      have h1 := hcells (cell_cellsAt hc) hq
      have h3 : h2.cell ad.1 ad.2 = some v := by
        unfold AH.cellsAt at h1
        obtain ⟨c, hr, hc2⟩ := Option.bind_eq_some_iff.1 h1
        split at hc2
        · rename_i hle
          unfold AH.cell
          rw [hr]
          simp only [Option.bind_some]
          have h5 := congrArg (fun l : List AV => l[0]?) (Option.some.inj hc2)
          simpa using h5
        · cases hc2
      exact ob_iff.2 ⟨v, h3, (hd _).2 hk'⟩
  case convert s d x =>
    split at hh
    · obtain ⟨hc, hh⟩ := ite_fail.1 hh
      simp only [if_pos hc]
      split at hh
      · unfold aBytes at hh ⊢
        split at hh
        · exact ⟨_, _, hh, fun _ _ _ h => h⟩
        · split at hh
          · rename_i h0
            simp only [if_pos h0]
            exact ⟨_, _, hh, fun _ _ _ h => h⟩
          · rename_i h0
            simp only [if_neg h0]
            obtain ⟨cs, hcs, hh⟩ := ob_iff.1 hh
            obtain ⟨l, hl, hh⟩ := ob_iff.1 hh
            exact ⟨_, _, hh, fun h2 hq K' hk' => ob_iff.2 ⟨cs, hcells hcs hq, ob_iff.2 ⟨l, hl, hk'⟩⟩⟩
      · exact hh.elim
    · exact hh.elim
  case lookup t m k ok =>
    split at hh
    · obtain ⟨zk, hzk⟩ := zeroOf_det hh
      simp only [hzk] at hh ⊢
      obtain ⟨ze, hze⟩ := zeroOf_det hh
      simp only [hze] at hh ⊢
      have hd := chkOne_det hh
      simp only [hd] at hh ⊢
      have hk := (aKey_iff _ _ _ _).1 hh
      have hka : ∀ K' : Prop, aKey P 20 _ (ev env k) K' ↔ K' := fun K' => by rw [aKey_iff]; exact ⟨fun h => h.2, fun h => ⟨hk.1, h⟩⟩
      simp only [hka] at hh ⊢
      obtain ⟨mm, hp, hh⟩ := chkMap_iff.1 hh
      simp only [hp, chkMap]
      cases mm with
      | none => exact ⟨_, _, hh, fun _ _ _ h => h⟩
      | some r =>
        obtain ⟨⟨es, ck⟩, hes, hh⟩ := ob_iff.1 hh
        have key : ∀ (tt : TypeId) (l : List MEnt) (K0 : Option MEnt → Prop), findEnt P tt (ev env k) l K0 → ∃ r, ∀ K' : Option MEnt → Prop, findEnt P tt (ev env k) l K' ↔ K' r := by
          intro tt l
          induction l with
          | nil => intro _ _; exact ⟨none, fun _ => Iff.rfl⟩
          | cons e l ih =>
            intro K0 h0
            unfold findEnt at h0 ⊢
            obtain ⟨b, hb⟩ := aEqT_det _ _ _ _ _ h0
            simp only [hb] at h0 ⊢
            cases b
            · exact ih _ h0
            · exact ⟨some e, fun _ => Iff.rfl⟩
        obtain ⟨r, hr⟩ := key _ _ _ hh
        rw [hr] at hh
        cases r with
        | none =>
          refine ⟨_, _, hh, fun h2 hq K' hk' => ?_⟩
          obtain ⟨ck', hm⟩ := hmaps hes hq
          exact ob_iff.2 ⟨_, hm, (hr _).2 hk'⟩
        | some e =>
          simp only at hh
          have hd2 := chkOne_det hh
          rw [hd2] at hh
          refine ⟨_, _, hh, fun h2 hq K' hk' => ?_⟩
          obtain ⟨ck', hm⟩ := hmaps hes hq
          exact ob_iff.2 ⟨_, hm, (hr _).2 ((hd2 _).2 hk')⟩
    · exact hh.elim
  case call c =>
    split at hh
    · split at hh
      · split at hh
        · exact ⟨_, _, hh, fun _ _ _ h => h⟩
        · obtain ⟨⟨es, ck⟩, hes, hh⟩ := ob_iff.1 hh
          refine ⟨_, _, hh, fun h2 hq K' hk' => ?_⟩
          obtain ⟨ck', hm⟩ := hmaps hes hq
          exact ob_iff.2 ⟨_, hm, hk'⟩
        · exact hh.elim
      · exact hh.elim
    · exact hh.elim

end
end Go.Abs
