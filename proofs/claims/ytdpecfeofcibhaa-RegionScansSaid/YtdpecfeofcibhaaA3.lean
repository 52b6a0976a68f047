/- What the abstract machine says of an operation that reads no memory holds of the model's. -/
import Derived.Test.YtdpecfeofcibhaaA2
import Derived.Laws.Entries
import Derived.Laws.CopyRow
namespace Go.Abs

theorem ob_iff {α : Type} {x : Option α} {K : α → Prop} : ob x K ↔ ∃ a, x = some a ∧ K a := by cases x <;> simp [ob, Res.fail]
theorem chkInt_iff {k : IntKind} {v : AV} {K : Int → Prop} : chkInt k v K ↔ ∃ n, v = .int k n ∧ K n := by
  cases v <;> simp [chkInt, Res.fail]
  exact ⟨fun ⟨h1, h2⟩ => ⟨_, ⟨h1, rfl⟩, h2⟩, fun ⟨_, ⟨h1, h2⟩, h3⟩ => ⟨h1, h2 ▸ h3⟩⟩
theorem chkNum_iff {v : AV} {K : Int → Prop} : chkNum v K ↔ ∃ k n, v = .int k n ∧ K n := by
  cases v <;> simp [chkNum, Res.fail]
  exact ⟨fun h => ⟨_, _, ⟨rfl, rfl⟩, h⟩, fun ⟨_, _, ⟨_, h2⟩, h3⟩ => h2 ▸ h3⟩
theorem chkBool_iff {v : AV} {K : Bool → Prop} : chkBool v K ↔ ∃ b, v = .bool b ∧ K b := by cases v <;> simp [chkBool, Res.fail]
theorem chkStr_iff {v : AV} {K : List UInt8 → Prop} : chkStr v K ↔ ∃ b, v = .str b ∧ K b := by cases v <;> simp [chkStr, Res.fail]
theorem chkPtr_iff {v : AV} {K : Option (Nat × Nat) → Prop} : chkPtr v K ↔ ∃ b, v = .ptr b ∧ K b := by cases v <;> simp [chkPtr, Res.fail]
theorem chkSl_iff {v : AV} {K : Option Sl → Prop} : chkSl v K ↔ ∃ b, v = .slice b ∧ K b := by cases v <;> simp [chkSl, Res.fail]
theorem chkMap_iff {v : AV} {K : Option Nat → Prop} : chkMap v K ↔ ∃ b, v = .map b ∧ K b := by cases v <;> simp [chkMap, Res.fail]
theorem chkFn_iff {v : AV} {K : FuncId → List AV → List AV → Prop} : chkFn v K ↔ ∃ f a c, v = .fn f a c ∧ K f a c := by
  cases v <;> simp [chkFn, Res.fail]
  exact ⟨fun h => ⟨_, _, _, ⟨rfl, rfl, rfl⟩, h⟩, fun ⟨_, _, _, ⟨h1, h2, h3⟩, h⟩ => h1 ▸ h2 ▸ h3 ▸ h⟩
theorem zeroOf_iff {P : Program} {t : TypeId} {K : Value → Prop} : zeroOf P t K ↔ ∃ i z, P.info? t = some i ∧ i.zero = some z ∧ K z := by
  unfold zeroOf; cases P.info? t <;> simp [ob_iff, Res.fail]
theorem guardR_iff {b : Bool} {K : Prop} : guardR b K ↔ b = true ∧ K := by cases b <;> simp [guardR, Res.fail]
theorem ite_fail {c : Prop} [Decidable c] {K : Prop} : (if c then K else (Res.fail : Prop)) ↔ c ∧ K := by by_cases h : c <;> simp [h, Res.fail]
theorem ite_fail' {c : Prop} [Decidable c] {K : Prop} : (if c then (Res.fail : Prop) else K) ↔ ¬ c ∧ K := by by_cases h : c <;> simp [h, Res.fail]

/-- What is held against a type is the same value. -/
theorem chkCell_imp {z : Value} {v : AV} {K : AV → Prop} (h : chkCell z v K) : K v := by
  cases z <;> simp only [chkCell, chkInt_iff, chkBool_iff, chkStr_iff, chkPtr_iff, chkSl_iff, chkMap_iff, chkFn_iff, Res.fail] at h
  · obtain ⟨b, rfl, h⟩ := h; exact h
  · obtain ⟨b, rfl, h⟩ := h; exact h
  · obtain ⟨b, rfl, h⟩ := h; exact h
  · obtain ⟨b, rfl, h⟩ := h; exact h
  · obtain ⟨b, rfl, h⟩ := h; exact h
  · obtain ⟨b, rfl, h⟩ := h; exact h
  · obtain ⟨f, a, c, rfl, h⟩ := h; exact h

theorem chkCell_scal {z : Value} {v : AV} {K : AV → Prop} (h : chkCell z v K) : v.scal = true := by
  cases z <;> simp only [chkCell, chkInt_iff, chkBool_iff, chkStr_iff, chkPtr_iff, chkSl_iff, chkMap_iff, chkFn_iff, Res.fail] at h
  · obtain ⟨b, rfl, h⟩ := h; rfl
  · obtain ⟨b, rfl, h⟩ := h; rfl
  · obtain ⟨b, rfl, h⟩ := h; rfl
  · obtain ⟨b, rfl, h⟩ := h; rfl
  · obtain ⟨b, rfl, h⟩ := h; rfl
  · obtain ⟨b, rfl, h⟩ := h; rfl
  · obtain ⟨f, a, c, rfl, h⟩ := h; rfl

theorem chkPtr_ob {v : AV} {F : Nat × Nat → Prop} : (chkPtr v fun p => ob p F) = (match v with
    | .ptr (some a) => F a
    | _ => Res.fail) := by
  cases v with
  | ptr p => cases p <;> rfl
  | _ => rfl

theorem chkMap_ob {v : AV} {F : Nat → Prop} : (chkMap v fun p => ob p F) = (match v with
    | .map (some a) => F a
    | _ => Res.fail) := by
  cases v with
  | map p => cases p <;> rfl
  | _ => rfl

theorem chkMap_two {v : AV} {A : Prop} {F : Nat → Prop} : (chkMap v fun m => match m with
    | none => A
    | some r => F r) = (match v with
    | .map none => A
    | .map (some a) => F a
    | _ => Res.fail) := by
  cases v with
  | map p => cases p <;> rfl
  | _ => rfl

theorem chkCells_imp : ∀ {zs : List Value} {vs : List AV} {K : List AV → Prop}, chkCells zs vs K → K vs ∧ zs.length = vs.length
  | [], [], _, h => ⟨h, rfl⟩
  | z :: zs, v :: vs, K, h => by
    have h : chkCell z v fun v' => chkCells zs vs fun vs' => K (v' :: vs') := h
    have h1 := chkCell_imp h
    obtain ⟨h2, h3⟩ := chkCells_imp h1
    exact ⟨h2, by simp [h3]⟩
  | [], _ :: _, _, h => h.elim
  | _ :: _, [], _, h => h.elim

theorem chkOne_imp {z : Value} {v : AV} {K : AV → Prop} (h : chkOne z v K) : K v := by
  unfold chkOne at h
  split at h
  · split at h
    · exact (chkCells_imp h).1
    · exact h.elim
  · exact chkCell_imp h

theorem chkOnes_imp : ∀ {zs : List Value} {vs : List AV} {K : List AV → Prop}, chkOnes zs vs K → K vs
  | [], [], _, h => h
  | z :: zs, v :: vs, K, h => by
    have h : chkOne z v fun v' => chkOnes zs vs fun vs' => K (v' :: vs') := h
    have h1 := chkOne_imp h
    exact chkOnes_imp (K := fun vs' => K (v :: vs')) h1
  | [], _ :: _, _, h => h.elim
  | _ :: _, [], _, h => h.elim

theorem chkZ_imp {z : Value} {v : AV} {K : AV → Prop} (h : chkZ z v K) : K v := by
  unfold chkZ at h
  split at h
  · split at h
    · exact chkOnes_imp h
    · exact h.elim
  · exact chkOne_imp h

theorem chkT_imp {P : Program} {t : TypeId} {v : AV} {K : AV → Prop} (h : chkT P t v K) : K v := by
  obtain ⟨i, z, _, _, h⟩ := zeroOf_iff.1 h
  exact chkZ_imp h

theorem chkCell_mono {z : Value} {v : AV} {K K' : AV → Prop} (hk : ∀ v, K v → K' v) (h : chkCell z v K) : chkCell z v K' := by
  cases z <;> simp only [chkCell, chkInt_iff, chkBool_iff, chkStr_iff, chkPtr_iff, chkSl_iff, chkMap_iff, chkFn_iff, Res.fail] at h ⊢ <;> grind
theorem chkCells_mono : ∀ {zs : List Value} {vs : List AV} {K K' : List AV → Prop}, (∀ v, K v → K' v) → chkCells zs vs K → chkCells zs vs K'
  | [], [], _, _, hk, h => hk _ h
  | z :: zs, v :: vs, _, _, hk, h => by
    unfold chkCells at h ⊢
    exact chkCell_mono (fun _ h => chkCells_mono (fun _ h => hk _ h) h) h
  | [], _ :: _, _, _, _, h => h.elim
  | _ :: _, [], _, _, _, h => h.elim
theorem chkOne_mono {z : Value} {v : AV} {K K' : AV → Prop} (hk : ∀ v, K v → K' v) (h : chkOne z v K) : chkOne z v K' := by
  unfold chkOne at h ⊢
  split at h
  · split at h
    · exact chkCells_mono (fun _ h => hk _ h) h
    · exact h
  · exact chkCell_mono hk h
theorem chkOnes_mono : ∀ {zs : List Value} {vs : List AV} {K K' : List AV → Prop}, (∀ v, K v → K' v) → chkOnes zs vs K → chkOnes zs vs K'
  | [], [], _, _, hk, h => hk _ h
  | z :: zs, v :: vs, _, _, hk, h => by
    unfold chkOnes at h ⊢
    exact chkOne_mono (fun _ h => chkOnes_mono (fun _ h => hk _ h) h) h
  | [], _ :: _, _, _, _, h => h.elim
  | _ :: _, [], _, _, _, h => h.elim
theorem chkZ_mono {z : Value} {v : AV} {K K' : AV → Prop} (hk : ∀ v, K v → K' v) (h : chkZ z v K) : chkZ z v K' := by
  unfold chkZ at h ⊢
  split at h
  · split at h
    · exact chkOnes_mono (fun _ h => hk _ h) h
    · exact h
  · exact chkOne_mono hk h
theorem chkT_mono {P : Program} {t : TypeId} {v : AV} {K K' : AV → Prop} (hk : ∀ v, K v → K' v) (h : chkT P t v K) : chkT P t v K' := by
  obtain ⟨i, z, h1, h2, h⟩ := zeroOf_iff.1 h
  exact zeroOf_iff.2 ⟨i, z, h1, h2, chkZ_mono hk h⟩

section
variable {σ : Sig}
theorem VRel.of_int {k : IntKind} {n : Int} {u : Value} (h : VRel σ (.int k n) u) : u = .int k n := by cases h; rfl
theorem VRel.of_bool {b : Bool} {u : Value} (h : VRel σ (.bool b) u) : u = .bool b := by cases h; rfl
theorem VRel.of_str {l : List UInt8} {u : Value} (h : VRel σ (.str l) u) : ∃ s, u = .string s ∧ s.data.toList = l := by cases h with | str _ s h => exact ⟨s, rfl, h⟩
theorem VRel.of_ptr0 {u : Value} (h : VRel σ (.ptr none) u) : u = .pointer none := by cases h; rfl
theorem VRel.of_ptr {i o : Nat} {u : Value} (h : VRel σ (.ptr (some (i, o))) u) : ∃ a, u = .pointer (some a) ∧ ARel σ i o a := by cases h with | ptr _ _ a h => exact ⟨a, rfl, h⟩
theorem VRel.of_slice0 {u : Value} (h : VRel σ (.slice none) u) : u = .slice none 0 0 := by cases h; rfl
theorem VRel.of_slice {s : Sl} {u : Value} (h : VRel σ (.slice (some s)) u) : ∃ a len cap, u = .slice (some a) len cap ∧ SlRel σ s a len cap := by cases h with | slice _ a len cap h => exact ⟨a, len, cap, rfl, h⟩
theorem VRel.of_map0 {u : Value} (h : VRel σ (.map none) u) : u = .map none := by cases h; rfl
theorem VRel.of_map {r : Nat} {u : Value} (h : VRel σ (.map (some r)) u) : ∃ b, u = .map (some b) ∧ MRel σ r b := by cases h with | map _ b h => exact ⟨b, rfl, h⟩

theorem VRel.scal_oneCell {v : AV} {u : Value} (h : VRel σ v u) (hs : v.scal = true) : u.oneCell' = true := by
  cases h <;> first | rfl | simp [AV.scal] at hs

theorem ofCell_rel (v : Value) : VRel σ (ofCell v) v := by
  unfold ofCell; split
  · exact .bool _
  · exact .int _ _
  · exact .str _ _ rfl
  · exact .ptr0
  · exact .slice0
  · exact .map0
  · exact .nilFn
  · exact .bot _

theorem ofCells_rel (l : List Value) : VRels σ (l.map ofCell) l := by
  induction l with
  | nil => trivial
  | cons v l ih => exact ⟨ofCell_rel v, ih⟩

theorem ofConst_rel (v : Value) : VRel σ (ofConst v) v := by
  unfold ofConst; split
  · rename_i cs; exact VRel.agg_iff.2 ⟨cs, rfl, ofCells_rel _⟩
  · rename_i cs
    split
    · rename_i h
      have : cs = #[] := by simpa using h
      subst this; exact VRel.tup_iff.2 ⟨#[], rfl, trivial⟩
    · exact .bot _
  · exact ofCell_rel _

/-- The frame: slot by slot; no slot is written beyond the world's. -/
structure EnvRel (σ : Sig) (env : List AV) (a : Act) : Prop where
  len : env.length ≤ a.tmps.size
  get : ∀ t, VRel σ (env.getD t .bot) (a.tmps.getD t undef)

theorem ev_rel {env : List AV} {a : Act} (h : EnvRel σ env a) (x : Operand) : VRel σ (ev env x) (a.eval x) := by
  cases x with
  | tmp t => exact h.get t
  | const v => exact ofConst_rel v
  | global g => exact .bot _
  | func f => exact VRel.fn_iff.2 ⟨#[], #[], rfl, trivial, trivial⟩

theorem EnvRel.mono {σ' : Sig} {env : List AV} {a : Act} (hl : SigLe σ σ') (h : EnvRel σ env a) : EnvRel σ' env a := ⟨h.len, fun t => (h.get t).mono hl⟩

theorem EnvRel.put {env : List AV} {a : Act} (h : EnvRel σ env a) (dst : Option Tmp) {v : AV} {u : Value} (hv : VRel σ v u) : EnvRel σ (putE env dst v) (a.put dst u) := by
  cases dst with
  | none => exact h
  | some d =>
    refine ⟨by simpa [putE, Act.put] using h.len, fun t => ?_⟩
    simp only [putE, Act.put]
    have e1 : (env.set d v).getD t .bot = if d = t ∧ d < env.length then v else env.getD t .bot := by
      simp only [List.getD_eq_getElem?_getD, List.getElem?_set]
      by_cases ht : d = t
      · subst ht
        by_cases hl : d < env.length <;> simp [hl]
      · simp [ht]
    rw [e1]
    by_cases ht : d = t ∧ d < env.length
    · obtain ⟨rfl, hl⟩ := ht
      have : d < a.tmps.size := Nat.lt_of_lt_of_le hl h.len
      simp [hl, this]; exact hv
    · rw [if_neg ht]
      by_cases hdt : d = t
      · subst hdt
        have hl : ¬ d < env.length := fun hl => ht ⟨rfl, hl⟩
        have : env.getD d .bot = .bot := by simp [hl]
        rw [this]; exact .bot _
      · have : (a.tmps.setIfInBounds d u).getD t undef = a.tmps.getD t undef := by
          simp [Array.getElem?_setIfInBounds_ne hdt]
        rw [this]; exact h.get t

theorem EnvRel.put_bot {env : List AV} {a : Act} (h : EnvRel σ env a) (dst : Option Tmp) (u : Value) : EnvRel σ (putE env dst .bot) (a.put dst u) := h.put dst (.bot u)

theorem cellsOf_rel {v : AV} {u : Value} (h : VRel σ v u) (hb : v ≠ .bot) : VRels σ (cellsOf v) u.cells.toList := by
  cases h with
  | agg as bs hl hg => exact VRels.of hl hg
  | bot => exact absurd rfl hb
  | bool b => exact ⟨.bool b, trivial⟩
  | int k n => exact ⟨.int k n, trivial⟩
  | str l s h => exact ⟨.str l s h, trivial⟩
  | ptr0 => exact ⟨.ptr0, trivial⟩
  | ptr i o a h => exact ⟨.ptr i o a h, trivial⟩
  | slice0 => exact ⟨.slice0, trivial⟩
  | slice s a len cap h => exact ⟨.slice s a len cap h, trivial⟩
  | map0 => exact ⟨.map0, trivial⟩
  | map r b h => exact ⟨.map r b h, trivial⟩
  | fn f as cs bs ds h1 h2 h3 h4 => exact ⟨.fn f as cs bs ds h1 h2 h3 h4, trivial⟩
  | nilFn => exact ⟨.nilFn, trivial⟩
  | tup as bs hl hg => exact ⟨.tup as bs hl hg, trivial⟩

end

section
variable {P : Program} {w : World}

theorem okT_iff {t : TypeId} : okT P t = true ↔ (∃ i, P.info? t = some i) ∧ ∃ d, P.underlying t = some d := by
  simp [okT, Option.isSome_iff_exists]

theorem run_sizeOf_ok {t : TypeId} (h : ∃ i, P.info? t = some i) : (sizeOf t).run P w = .ok (P.cellsOf t) w := by
  obtain ⟨i, hi⟩ := h
  simp [sizeOf, typeInfo, hi, Program.cellsOf]

theorem run_isAgg_ok {t : TypeId} (h : ∃ d, P.underlying t = some d) : (isAgg t).run P w = .ok (isAggD (P.underlying t)) w := by
  obtain ⟨d, hd⟩ := h
  rw [hd]
  simp only [isAgg, Sem.run_bind, run_underlying hd, Result.andThen_ok]
  cases d <;> rfl

theorem run_zero_ok {t : TypeId} {i : TypeInfo} {z : Value} (h : P.info? t = some i) (hz : i.zero = some z) : (zeroValue t).run P w = .ok z w := by
  simp [zeroValue, typeInfo, h, hz]

theorem ARel.add {σ : Sig} {i o : Nat} {a : Addr} (h : ARel σ i o a) (n : Nat) : ARel σ i (o + n) (a.add n) := by
  unfold ARel at *
  split at h
  · subst h; rw [Addr.add_lit]; simp [Nat.add_assoc]
  · trivial
  · exact h.elim

theorem partOf_sound {σ : Sig} {t : TypeId} {cs : List AV} {ds : Array Value} {off : Nat} {K : AV → Prop} (hr : VRels σ cs ds.toList) (hok : okT P t = true)
    (h : partOf (isAggD (P.underlying t)) (P.cellsOf t) cs off K) : ∃ v u, K v ∧ VRel σ v u ∧ (part t ds off).run P w = .ok u w := by
  obtain ⟨hi, hd⟩ := okT_iff.1 hok
  unfold part
  simp only [Sem.run_bind, run_isAgg_ok hd, Result.andThen_ok]
  unfold partOf at h
  cases hag : isAggD (P.underlying t) with
  | true =>
    rw [hag] at h
    simp only [if_true, ite_fail] at h
    simp only [if_true, Sem.run_bind, run_sizeOf_ok hi, Result.andThen_ok, Sem.run_pure]
    obtain ⟨hlen, h⟩ := h
    refine ⟨_, _, h, VRel.agg_iff.2 ⟨_, rfl, ?_⟩, rfl⟩
    have := (hr.drop off).take (P.cellsOf t)
    simpa [Array.toList_extract, List.extract_eq_take_drop] using this
  | false =>
    rw [hag] at h
    simp only [Bool.false_eq_true, if_false, ob_iff] at h
    obtain ⟨v, hv, h⟩ := h
    obtain ⟨u, hu, hru⟩ := hr.get off v hv
    rw [Array.getElem?_toList] at hu
    exact ⟨v, u, h, hru, by simp [hu]⟩

end
end Go.Abs
