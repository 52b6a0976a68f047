/- What the abstract machine says of reads, of blocks that are made, of append, copy, clear holds of the model's. -/
import Derived.Test.YtdpecfeofcibhaaA6
import Derived.Laws.BytesString
import Derived.Laws.AppendOwn
namespace Go.Abs
section
variable {σ : Sig} {P : Program} {w : World} {h : AH}

theorem loadVar_sound (H : HRel σ h w) {t : TypeId} {i o : Nat} {a : Addr} (ha : ARel σ i o a) (hok : okT P t = true) {K : AV → Prop} {zs : List Value} {z : Value}
    (hl : if isAggD (P.underlying t) then ob (h.cellsAt i o (P.cellsOf t)) fun cs => chkCells zs cs fun cs => K (.agg cs) else ob (h.cell i o) fun v => chkCell z v fun v => K v) :
    ∃ v u, K v ∧ VRel σ v u ∧ (loadVar t a).run P w = .ok u w := by
  obtain ⟨hi, hd⟩ := okT_iff.1 hok
  unfold loadVar
  simp only [Sem.run_bind, run_isAgg_ok hd, Result.andThen_ok]
  cases hag : isAggD (P.underlying t) with
  | true =>
    rw [hag] at hl
    simp only [if_true, ob_iff] at hl
    obtain ⟨cs, hc, hl⟩ := hl
    obtain ⟨us, h1, h2, _, h4⟩ := H.cells (P := P) hc ha
    refine ⟨_, .agg us.toArray, (chkCells_imp hl).1, VRel.agg_iff.2 ⟨_, rfl, h2⟩, ?_⟩
    simp [run_sizeOf_ok hi, h4]
  | false =>
    rw [hag] at hl
    simp only [Bool.false_eq_true, if_false, ob_iff] at hl
    obtain ⟨v, hc, hl⟩ := hl
    obtain ⟨u, h1, h2⟩ := H.cell hc ha
    exact ⟨v, u, chkCell_imp hl, h2, by simp [h1]⟩

theorem bytesOf_rel : ∀ {cs : List AV} {us : List Value} {l : List UInt8}, bytesOf cs = some l → VRels σ cs us → ∃ ns : List Int, us = ns.map (Value.int .u8) ∧ l = ns.map fun n => UInt8.ofNat n.toNat
  | [], [], l, h, _ => by simp [bytesOf] at h; subst h; exact ⟨[], rfl, rfl⟩
  | c :: cs, u :: us, l, h, hr => by
    simp only [bytesOf, Option.bind_eq_some_iff, Option.map_eq_some_iff] at h
    obtain ⟨b, hb, l', hl', rfl⟩ := h
    obtain ⟨ns, rfl, rfl⟩ := bytesOf_rel hl' hr.2
    unfold byteOf at hb
    split at hb
    · rename_i n
      cases hb
      obtain rfl := hr.1.of_int
      exact ⟨n :: ns, rfl, rfl⟩
    · cases hb
  | [], _ :: _, _, _, hr => hr.elim
  | _ :: _, [], _, _, hr => hr.elim

theorem foldl_push (ns : List Int) : ∀ s : ByteArray, (ns.foldl (fun r n => r.push (UInt8.ofNat n.toNat)) s).data.toList = s.data.toList ++ ns.map fun n => UInt8.ofNat n.toNat := by
  induction ns with
  | nil => simp
  | cons n ns ih => intro s; simp [ih]

/-! ## Maps -/

theorem sameNow_equalIn {d : TypeDesc} {t : TypeId} (ht : P.underlying t = some d) {x y : Value} {b : Bool} (h : Instr.sameNow d x y = some b) (e : Nat) : (Op.equalIn (e + 1) t x y).run P w = .ok b w := by
  unfold Instr.sameNow at h
  split at h
  · split at h
    · rename_i hk; cases h; subst hk; simp [Op.equalIn, run_underlying ht]
    · cases h
  · cases h; simp [Op.equalIn, run_underlying ht]
  · cases h; simp [Op.equalIn, run_underlying ht]
  · cases h

/-- The comparisons up to the entry that is found; all behind it may be anything that runs. -/
theorem findIx_sound {t : TypeId} {k : AV} {k' : Value} (hk : VRel σ k k') : ∀ {es : List MEnt} {es' : List MapEntry} {i : Nat} {K : Option Nat → Prop}, All2 (ERel σ) es es' → findIx P t k es i K →
    (∃ j e e', K (some (i + j)) ∧ es[j]? = some e ∧ es'[j]? = some e' ∧ AV.beq k e.key = true ∧ k.flat = true ∧ (∀ n, (Instr.findAsking t k' es' n).run P w = .ok (some (n + j, e'.val)) w) ∧
      (∀ d, P.underlying t = some d → ∀ n r, Instr.findNow d k' es' n = some r → r = some (n + j, e'.val))) ∨
    (K none ∧ (∀ n, (Instr.findAsking t k' es' n).run P w = .ok none w) ∧ (∀ d, P.underlying t = some d → ∀ n r, Instr.findNow d k' es' n = some r → r = none))
  | [], [], i, K, _, h => .inr ⟨h, fun n => by simp [Instr.findAsking], fun d _ n r hr => by simp [Instr.findNow] at hr; exact hr.symm⟩
  | e :: es, e' :: es', i, K, hr, h => by
    obtain ⟨b, h, hb⟩ := aEqT_sound (P := P) (w := w) 20 (e := 9999 + 1) (by omega) t k e.key k' e'.key _ h hk hr.1.1
    have hb' : (Op.equal t k' e'.key).run P w = .ok b w := hb
    have hnow : ∀ d, P.underlying t = some d → ∀ c, Instr.sameNow d k' e'.key = some c → c = b := by
      intro d hd c hc
      have h1 := sameNow_equalIn (P := P) (w := w) hd hc 9999
      rw [hb] at h1; cases h1; rfl
    cases b
    · simp only [cond_false] at h
      rcases findIx_sound hk hr.2 h with ⟨j, f, f', h1, h2, h3, h4, h5, h6, h7⟩ | ⟨h1, h2, h3⟩
      · refine .inl ⟨j + 1, f, f', by rw [show i + (j + 1) = i + 1 + j by omega]; exact h1, by simpa using h2, by simpa using h3, h4, h5, fun n => ?_, fun d hd n r hr => ?_⟩
        · simp only [Instr.findAsking, Sem.run_bind, hb', Result.andThen_ok, Bool.false_eq_true, if_false, h6]
          rw [show n + 1 + j = n + (j + 1) by omega]
        · simp only [Instr.findNow] at hr
          cases hs : Instr.sameNow d k' e'.key with
          | none => simp [hs] at hr
          | some c =>
            obtain rfl := hnow d hd c hs
            simp only [hs] at hr
            rw [h7 d hd _ _ hr, show n + 1 + j = n + (j + 1) by omega]
      · refine .inr ⟨h1, fun n => ?_, fun d hd n r hr => ?_⟩
        · simp only [Instr.findAsking, Sem.run_bind, hb', Result.andThen_ok, Bool.false_eq_true, if_false, h2]
        · simp only [Instr.findNow] at hr
          cases hs : Instr.sameNow d k' e'.key with
          | none => simp [hs] at hr
          | some c =>
            obtain rfl := hnow d hd c hs
            simp only [hs] at hr
            exact h3 d hd _ _ hr
    · simp only [cond_true, guardR_iff, Bool.and_eq_true] at h
      refine .inl ⟨0, e, e', h.2, rfl, rfl, h.1.1, h.1.2, fun n => ?_, fun d hd n r hr => ?_⟩
      · simp [Instr.findAsking, hb']
      · simp only [Instr.findNow] at hr
        cases hs : Instr.sameNow d k' e'.key with
        | none => simp [hs] at hr
        | some c =>
          obtain rfl := hnow d hd c hs
          simp only [hs] at hr
          cases hr; rfl
  | [], _ :: _, _, _, hr, _ => hr.elim
  | _ :: _, [], _, _, hr, _ => hr.elim

theorem findEnt_sound {t : TypeId} {k : AV} {k' : Value} (hk : VRel σ k k') : ∀ {es : List MEnt} {es' : List MapEntry} {K : Option MEnt → Prop}, All2 (ERel σ) es es' → findEnt P t k es K →
    (∃ (j : Nat) (e : MEnt) (e' : MapEntry), K (some e) ∧ ERel σ e e' ∧ (∀ n, (Instr.findAsking t k' es' n).run P w = .ok (some (n + j, e'.val)) w) ∧
      (∀ d, P.underlying t = some d → ∀ n r, Instr.findNow d k' es' n = some r → r = some (n + j, e'.val))) ∨
    (K none ∧ (∀ n, (Instr.findAsking t k' es' n).run P w = .ok none w) ∧ (∀ d, P.underlying t = some d → ∀ n r, Instr.findNow d k' es' n = some r → r = none))
  | [], [], K, _, h => .inr ⟨h, fun n => by simp [Instr.findAsking], fun d _ n r hr => by simp [Instr.findNow] at hr; exact hr.symm⟩
  | e :: es, e' :: es', K, hr, h => by
    obtain ⟨b, h, hb⟩ := aEqT_sound (P := P) (w := w) 20 (e := 9999 + 1) (by omega) t k e.key k' e'.key _ h hk hr.1.1
    have hb' : (Op.equal t k' e'.key).run P w = .ok b w := hb
    have hnow : ∀ d, P.underlying t = some d → ∀ c, Instr.sameNow d k' e'.key = some c → c = b := by
      intro d hd c hc
      have h1 := sameNow_equalIn (P := P) (w := w) hd hc 9999
      rw [hb] at h1; cases h1; rfl
    cases b
    · simp only [cond_false] at h
      rcases findEnt_sound hk hr.2 h with ⟨j, f, f', h1, h2, h6, h7⟩ | ⟨h1, h2, h3⟩
      · refine .inl ⟨j + 1, f, f', h1, h2, fun n => ?_, fun d hd n r hr => ?_⟩
        · simp only [Instr.findAsking, Sem.run_bind, hb', Result.andThen_ok, Bool.false_eq_true, if_false, h6]
          rw [show n + 1 + j = n + (j + 1) by omega]
        · simp only [Instr.findNow] at hr
          cases hs : Instr.sameNow d k' e'.key with
          | none => simp [hs] at hr
          | some c =>
            obtain rfl := hnow d hd c hs
            simp only [hs] at hr
            rw [h7 d hd _ _ hr, show n + 1 + j = n + (j + 1) by omega]
      · refine .inr ⟨h1, fun n => ?_, fun d hd n r hr => ?_⟩
        · simp only [Instr.findAsking, Sem.run_bind, hb', Result.andThen_ok, Bool.false_eq_true, if_false, h2]
        · simp only [Instr.findNow] at hr
          cases hs : Instr.sameNow d k' e'.key with
          | none => simp [hs] at hr
          | some c =>
            obtain rfl := hnow d hd c hs
            simp only [hs] at hr
            exact h3 d hd _ _ hr
    · simp only [cond_true] at h
      refine .inl ⟨0, e, e', h, hr.1, fun n => ?_, fun d hd n r hr => ?_⟩
      · simp [Instr.findAsking, hb']
      · simp only [Instr.findNow] at hr
        cases hs : Instr.sameNow d k' e'.key with
        | none => simp [hs] at hr
        | some c =>
          obtain rfl := hnow d hd c hs
          simp only [hs] at hr
          cases hr; rfl
  | [], _ :: _, _, hr, _ => hr.elim
  | _ :: _, [], _, hr, _ => hr.elim

theorem run_findKey_of {t : TypeId} {k : Value} {es : List MapEntry} {r : Option (Nat × Value)} (hu : ∃ d, P.underlying t = some d) (h1 : (Instr.findAsking t k es).run P w = .ok r w)
    (h2 : ∀ d, P.underlying t = some d → ∀ r', Instr.findNow d k es 0 = some r' → r' = r) : (Instr.findKey t k es).run P w = .ok r w := by
  obtain ⟨d, hd⟩ := hu
  simp only [Instr.findKey, Sem.run_bind, run_underlying hd, Result.andThen_ok]
  cases hn : Instr.findNow d k es 0 with
  | some r' => have := h2 d hd r' hn; subst this; simp
  | none => simp [h1]

theorem aKey_sound {em : Bool} : ∀ (d : Nat) {n : Nat} (_ : d ≤ n) (t : TypeId) (x : AV) (u : Value) (K : Prop), aKey P d t x K → VRel σ x u → K ∧ (Instr.checkKey em n t u).run P w = .ok () w
  | 0, _, _, _, _, _, _, h, _ => h.elim
  | d + 1, 0, hn, _, _, _, _, _, _ => absurd hn (by omega)
  | d + 1, n + 1, hn, t, x, u, K, h, hx => by
    unfold aKey at h
    split at h
    · rename_i ht; obtain rfl := hx.of_bool; exact ⟨h, by simp [Instr.checkKey, run_underlying ht]⟩
    · rename_i ht; obtain rfl := hx.of_int; exact ⟨h, by simp [Instr.checkKey, run_underlying ht]⟩
    · rename_i ht; obtain ⟨s, rfl, _⟩ := hx.of_str; exact ⟨h, by simp [Instr.checkKey, run_underlying ht]⟩
    · rename_i fs xs ht
      obtain ⟨us, rfl, hr⟩ := VRel.agg_iff.1 hx
      simp only [guardR_iff, List.all_eq_true, bne_iff_ne, ne_eq] at h
      obtain ⟨hnm, h⟩ := h
      have key : ∀ (l : List Field), aKeyF P (aKey P d) xs l K → K ∧ ∀ f ∈ l, ∃ v, (part f.type us f.offset).run P w = .ok v w ∧ (Instr.checkKey em n f.type v).run P w = .ok () w := by
        intro l
        induction l with
        | nil => intro h; exact ⟨h, by simp⟩
        | cons f l ih =>
          intro h
          simp only [aKeyF, guardR_iff] at h
          obtain ⟨hok, h⟩ := h
          obtain ⟨v, u, h, hvu, hp⟩ := partOf_sound (P := P) (w := w) hr hok h
          obtain ⟨h, hck⟩ := aKey_sound d (n := n) (by omega) f.type v u _ h hvu
          obtain ⟨hK, hrest⟩ := ih h
          refine ⟨hK, fun g hg => ?_⟩
          rcases List.mem_cons.1 hg with rfl | hg
          · exact ⟨u, hp, hck⟩
          · exact hrest g hg
      obtain ⟨hK, hall⟩ := key _ h
      refine ⟨hK, ?_⟩
      simp only [Instr.checkKey, Sem.run_bind, run_underlying ht, Result.andThen_ok]
      rw [← Array.forIn_toList]
      clear key h ht
      revert hnm hall
      generalize fs.toList = l
      intro hnm hall
      induction l with
      | nil => simp
      | cons f l ih =>
        obtain ⟨v, h1, h2⟩ := hall f (by simp)
        have hne := hnm f (by simp)
        simp only [List.forIn_cons, Sem.run_bind, hne, ne_eq, not_false_eq_true, if_true, h1, Result.andThen_ok, h2, Sem.run_pure]
        exact ih (fun g hg => hnm g (by simp [hg])) fun g hg => hall g (by simp [hg])
    · exact h.elim

theorem aKeyF_iff {key : TypeId → AV → Prop → Prop} (hr : ∀ t x (K : Prop), key t x K ↔ key t x True ∧ K) (xs : List AV) : ∀ (l : List Field) (K : Prop), aKeyF P key xs l K ↔ aKeyF P key xs l True ∧ K
  | [], K => by simp [aKeyF]
  | f :: l, K => by
    have ih := aKeyF_iff hr xs l K
    simp only [aKeyF, guardR_iff, partOf]
    split
    · simp only [ite_fail]
      rw [hr _ _ (aKeyF P key xs l K), hr _ _ (aKeyF P key xs l True), ih]
      constructor
      · rintro ⟨h1, h2, h3, h4, h5⟩; exact ⟨⟨h1, h2, h3, h4⟩, h5⟩
      · rintro ⟨⟨h1, h2, h3, h4⟩, h5⟩; exact ⟨h1, h2, h3, h4, h5⟩
    · simp only [ob_iff]
      constructor
      · rintro ⟨h1, v, h2, h3⟩
        rw [hr, ih] at h3
        exact ⟨⟨h1, v, h2, (hr _ _ _).2 ⟨h3.1, h3.2.1⟩⟩, h3.2.2⟩
      · rintro ⟨⟨h1, v, h2, h3⟩, h5⟩
        rw [hr] at h3
        exact ⟨h1, v, h2, (hr _ _ _).2 ⟨h3.1, ih.2 ⟨h3.2, h5⟩⟩⟩

theorem aKey_iff : ∀ (d : Nat) (t : TypeId) (x : AV) (K : Prop), aKey P d t x K ↔ aKey P d t x True ∧ K
  | 0, _, _, _ => by simp [aKey, Res.fail]
  | d + 1, t, x, K => by
    unfold aKey
    split
    · simp
    · simp
    · simp
    · simp only [guardR_iff]
      rw [aKeyF_iff (aKey_iff d)]
      constructor
      · rintro ⟨h1, h2, h3⟩; exact ⟨⟨h1, h2⟩, h3⟩
      · rintro ⟨⟨h1, h2⟩, h3⟩; exact ⟨h1, h2, h3⟩
    · simp [Res.fail]

theorem aKey_true {d : Nat} {t : TypeId} {x : AV} {K : Prop} (h : aKey P d t x K) : aKey P d t x True := ((aKey_iff d t x K).1 h).1

end
end Go.Abs
