/- What the abstract machine says of operations that act (no calls) holds of the model's. -/
import Derived.Test.YtdpecfeofcibhaaA10
namespace Go.Abs
section
variable {σ : Sig} {P : Program} {w : World} {h : AH}

theorem sliceAt_sound (H : HRel σ h w) {s : Sl} {size : Nat} {a : Addr} {cap : Nat} {old : List AV} (hs : SlRel σ s a s.len cap) (hc : h.sliceAt s size = some old) :
    ∃ olds, VRels σ old olds ∧ olds.length = s.len * size ∧ ∀ w' : World, w'.heap = w.heap → (Builtin.firstCells size s.len (.slice (some a) s.len cap)).run P w' = .ok olds.toArray w' := by
  unfold AH.sliceAt at hc
  split at hc
  · rename_i h0
    cases hc
    exact ⟨[], trivial, by simp [h0], fun w' _ => by simp [Builtin.firstCells, h0, loadCells, loadCellsFrom]⟩
  · rename_i h0
    have hne : s.slack ≠ some 0 := fun h1 => by have := hs.none0 h1; have := hs.le; omega
    obtain ⟨us, h1, h2, h3, _⟩ := H.cells (P := P) hc (hs.at_ hne)
    refine ⟨us, h2, h1, fun w' hw => ?_⟩
    have := cells_other (P := P) hw h3 (s.len * size) (by omega)
    rw [← h1, List.take_length] at this
    simpa [Builtin.firstCells, ← h1] using this

theorem size_zeroCells' (z : Array Value) (n : Nat) : (Builtin.zeroCells z n).size = n * z.size := by simp [Builtin.zeroCells]

theorem append_sound (H : HRel σ h w) {t u ty e : TypeId} {d : TypeDesc} {i : TypeInfo} {z : Value} {x : Value} {us : List Value} {n : Nat} {s : Option Sl} {sv : Value} {new : List AV} {K : AV → AH → Prop}
    (ht : P.underlying t = some (.slice e)) (hu : P.underlying u = some d) (hd : isSeqD d = true) (hi : P.info? e = some i) (hz : i.zero = some z) (hzs : z.cells.size = i.size) (hb0 : i.bytes ≠ 0) (hs0 : i.size ≠ 0)
    (hx : News P w i.size x us n) (hnew : VRels σ new us) (hsc : new.all AV.scal = true) (hs : VRel σ (.slice s) sv) (hh : aAppend h i.size i.bytes s new n fun s h => K (.slice s) h) :
    ∃ v h' u' σ' w', K v h' ∧ VRel σ' v u' ∧ Step σ h w σ' h' w' ∧ (Builtin.append_ #[t, u] ty #[sv, x]).run P w = .ok u' w' := by
  have hnl := hnew.length
  have hone : ∀ u ∈ us, u.oneCell' = true := by
    intro u hu
    obtain ⟨j, hj, hju⟩ := List.mem_iff_getElem.1 hu
    have hj' : j < new.length := by omega
    obtain ⟨u', hu', hr'⟩ := hnew.get j new[j] (by simp [hj'])
    rw [List.getElem?_eq_getElem hj, hju] at hu'
    cases hu'
    exact hr'.scal_oneCell (List.all_eq_true.1 hsc _ (List.getElem_mem hj'))
  have out : ∀ {σ0 : Sig} {h0 : AH} (_ : Step σ h w σ0 h0 w) {base : Option Addr} {sLen sCap : Nat} {old : List AV} {olds : List Value}, VRels σ0 old olds → olds.length = sLen * i.size → sCap < sLen + n → (sLen + n) * i.bytes ≤ 70368744177664 →
      (∀ w' : World, w'.heap = w.heap → (Builtin.firstCells i.size sLen (.slice base sLen sCap)).run P w' = .ok olds.toArray w') →
      ∃ u' σ' w', VRel σ' (.slice (some ⟨h0.length, 0, sLen + n, sLen + n, some i.size⟩)) u' ∧ Step σ h w σ' (h0 ++ [.cells (old ++ new) false]) w' ∧ (Builtin.append_ #[t, u] ty #[.slice base sLen sCap, x]).run P w = .ok u' w' := by
    intro σ0 h0 hst base sLen sCap old olds hold hol hg hb hfo
    have hrun := run_append_out (ty := ty) ht hu hd hi hz hx hg hb hb0 (hfo _ rfl)
    have hge := grownCap_ge w (sLen + n) sCap e
    have hsz : (olds.toArray ++ us.toArray ++ Builtin.zeroCells z.cells (grownCap w (sLen + n) sCap e - (sLen + n))).size = grownCap w (sLen + n) sCap e * i.size := by
      simp only [Array.size_append, List.size_toArray, size_zeroCells', hzs, hol, hx.len, ← Nat.add_mul]
      congr 1; omega
    have hln : (old ++ new).length = (sLen + n) * i.size := by
      rw [List.length_append, hold.length, hnl, hol, hx.len, Nat.add_mul]
    have hst1 : Step σ0 h0 w σ0 h0 w.drew := Step.drew hst.rel rfl rfl rfl rfl
    have hrel : VRels σ0 (old ++ new) ((olds.toArray ++ us.toArray ++ Builtin.zeroCells z.cells (grownCap w (sLen + n) sCap e - (sLen + n))).toList.take (old ++ new).length) := by
      have : (olds.toArray ++ us.toArray ++ Builtin.zeroCells z.cells (grownCap w (sLen + n) sCap e - (sLen + n))).toList.take (old ++ new).length = olds ++ us := by
        simp only [Array.toList_append]
        rw [List.take_left' (by rw [List.length_append, List.length_append, hold.length, hnl])]
      rw [this]
      exact hold.append (hnew.mono hst.le)
    have hst2 := HRel.newRow (T := e) hst1.rel hrel (by rw [hln, hsz]; exact Nat.mul_le_mul_right _ hge)
    refine ⟨_, _, _, .slice _ _ _ _ ⟨rfl, Nat.le_refl _, hge, by simp, fun hz => absurd (by simpa using hz) hs0, fun _ => ?_, fun sz hsz0 h0' b base dsz hb' => ?_⟩, (hst.trans hst1).trans hst2, hrun⟩
    · show ARel _ h0.length 0 _
      unfold ARel
      rw [← hst.rel.len]
      simp
    · simp at hsz0
      subst hsz0
      rw [← hst.rel.len] at hb'
      simp at hb'
      obtain ⟨rfl, rfl, rfl⟩ := hb'
      simp only [Nat.zero_add]
      simp only [Array.size_append, List.size_toArray] at hsz
      simp [hsz]
  unfold aAppend at hh
  split at hh
  · obtain rfl := hs.of_slice0
    split at hh
    · rename_i h0
      subst h0
      have hus : us = [] := List.eq_nil_of_length_eq_zero (by simpa using hx.len)
      refine ⟨_, _, _, σ, w, hh, .slice0, Step.refl H, ?_⟩
      rw [run_append_in ht hu hd hi hx (by omega)]
      simp
    · rename_i h0
      obtain ⟨hb, hh⟩ := ite_fail.1 hh
      obtain ⟨u', σ', w', h1, h2, h3⟩ := out (Step.refl H) (base := none) (sLen := 0) (sCap := 0) (old := []) (olds := []) trivial (by simp) (by omega) (by simpa using hb) (fun w' _ => by simp [Builtin.firstCells])
      simp only [Nat.zero_add, List.nil_append] at h1 h2
      exact ⟨_, _, _, _, _, hh, h1, h2, h3⟩
  · rename_i s
    obtain ⟨a, len, cap, rfl, hsl⟩ := hs.of_slice
    have hl := hsl.len
    subst hl
    have hle := hsl.le
    have hcap := hsl.capLe
    split at hh
    · rename_i hroom
      obtain ⟨h', hp, hh⟩ := ob_iff.1 hh
      have hrun := run_append_in (ty := ty) ht hu hd hi hx (base := some a) (sLen := s.len) (sCap := cap) (by omega)
      have hval : ∀ σ', SigLe σ σ' → VRel σ' (.slice (some ⟨s.id, s.off, s.len + n, s.cap, s.slack⟩)) (.slice (some a) (s.len + n) cap) := fun σ' hle' =>
        VRel.mono hle' (.slice _ _ _ _ ⟨rfl, hroom, hcap, hsl.exact, hsl.none0, hsl.at_, hsl.room⟩)
      split at hp
      · rename_i h0
        cases hp
        have hus : us = [] := List.eq_nil_of_length_eq_zero (by rw [hx.len, h0]; simp)
        refine ⟨_, _, _, σ, w, hh, hval _ (.refl _), Step.refl H, ?_⟩
        rw [hrun, hus]; simp [storeCells]
      · rename_i h0
        have hne : s.slack ≠ some 0 := fun h1 => by have := hsl.none0 h1; omega
        obtain ⟨w', hst, hstep⟩ := H.store (P := P) hp ((hsl.at_ hne).add _) hnew hsc
        refine ⟨_, _, _, σ, w', hh, hval _ (.refl _), hstep, ?_⟩
        rw [hrun]; simp [hst]
    · rename_i hroom
      obtain ⟨hb, hh⟩ := ite_fail.1 hh
      obtain ⟨old, ho, hh⟩ := ob_iff.1 hh
      obtain ⟨olds, h1, h2, h3⟩ := sliceAt_sound (P := P) H hsl ho
      split at hh
      · rename_i hsk
        have hce := hsl.exact hsk
        obtain ⟨u', σ', w', h4, h5, h6⟩ := out (Step.refl H) (base := some a) (sLen := s.len) (sCap := cap) h1 h2 (by omega) hb h3
        exact ⟨_, _, _, _, _, hh, h4, h5, h6⟩
      · rename_i k hsk
        obtain ⟨hk, hh⟩ := ite_fail.1 hh
        rw [hk] at hsk
        split at hh
        · rename_i c hid
          obtain ⟨b, base, dsz, dd, T, fr, hr⟩ := H.rowAt hid
          have hne : s.slack ≠ some 0 := by rw [hsk]; simpa using hs0
          · have ha := hr.addr (hsl.at_ hne)
            have hsz0 := hs0
            by_cases hin : s.len + n ≤ cap
            · -- in place
              have hrun := run_append_in (ty := ty) ht hu hd hi hx (base := some a) (sLen := s.len) (sCap := cap) hin
              have hroom2 := hsl.room _ hsk hsz0 _ _ _ hr.sig
              have hlt := (Array.getElem?_eq_some_iff.1 hr.blk).1
              subst ha
              have hmul : (s.len + n) * i.size ≤ cap * i.size := Nat.mul_le_mul_right _ hin
              rw [Nat.add_mul] at hmul
              have hxl := hx.len
              have hsz := hr.size
              have hst := run_storeCells' (P := P) (base := base + s.off + s.len * i.size) us 0 dd w hr.blk (by omega) (by rw [hsz]; exact hr.free rfl) hone
              refine ⟨_, _, _, _, _, hh, ?_, Step.regrow (w' := setBlk w b (.cells (dd.toList.take (base + s.off + s.len * i.size + 0) ++ us ++ dd.toList.drop (base + s.off + s.len * i.size + 0 + us.length)).toArray T fr)) H hr.sig hid rfl rfl rfl rfl (by rw [setBlk_size]; exact Nat.le_refl _) (fun k _ hk => setBlk_other hk)
                (base' := base + s.off) (B' := .cells (old ++ new) false) ⟨_, T, fr, setBlk_same hlt, by simp; omega, ?_, hr.free, ?_⟩, by rw [hrun]; simp only [Addr.add_lit, hst, Result.andThen_ok]; rfl⟩
              · refine .slice _ _ _ _ ⟨rfl, Nat.le_refl _, hin, by simp, by simp [hsz0], fun _ => ?_, fun sz hsz1 h0' b' base2 dsz2 hb' => ?_⟩
                · show ARel _ h.length 0 _
                  unfold ARel
                  rw [← H.len]
                  simp
                · simp at hsz1
                  subst hsz1
                  rw [← H.len] at hb'
                  simp at hb'
                  obtain ⟨rfl, rfl, rfl⟩ := hb'
                  simp; omega
              · rw [List.length_append, h1.length, hnl, h2, hxl]; omega
              · have hle2 := (SigLe.set hr.sig (e' := .dead) trivial).trans (SigLe.append (σ.set s.id .dead) [.live b (base + s.off) dsz])
                have hold2 : VRels σ old ((dd.toList.drop (base + s.off)).take (s.len * i.size)) := by
                  unfold AH.sliceAt at ho
                  split at ho
                  · rename_i h0
                    cases ho
                    simp [h0, All2]
                  · unfold AH.cellsAt at ho
                    rw [row_iff.2 ⟨_, hid⟩] at ho
                    simp only [Option.bind_some] at ho
                    split at ho
                    · rename_i hfit
                      cases ho
                      exact hr.seg hfit
                    · cases ho
                have hol := h1.length
                have e1 : ((dd.toList.take (base + s.off + s.len * i.size) ++ us ++ dd.toList.drop (base + s.off + s.len * i.size + us.length)).drop (base + s.off)).take (old ++ new).length = (dd.toList.drop (base + s.off)).take (s.len * i.size) ++ us := by
                  rw [List.length_append, hol, hnl, h2]
                  rw [List.append_assoc, List.drop_append_of_le_length (by simp; omega), List.drop_take]
                  rw [show base + s.off + s.len * i.size - (base + s.off) = s.len * i.size by omega]
                  rw [← List.append_assoc, List.take_left' (by simp; omega)]
                show VRels _ _ ((List.drop (base + s.off) (List.toArray _).toList).take _)
                rw [List.toList_toArray, Nat.add_zero, e1]
                exact VRels.mono hle2 (hold2.append hnew)
            · -- elsewhere
              have hst0 := Step.kill H hr.sig hid
              obtain ⟨u', σ', w', h4, h5, h6⟩ := out hst0 (base := some a) (sLen := s.len) (sCap := cap) (h1.mono hst0.le) h2 (by omega) hb h3
              refine ⟨_, _, _, _, _, hh, ?_, h5, h6⟩
              simpa using h4
        · exact hh.elim


theorem copy_sound (H : HRel σ h w) {t e ty : TypeId} {ts : Array TypeId} {x : AV} {xv sv : Value} {s : Option Sl} {K : AV → AH → Prop} (ht : ts[0]? = some t) (hu : P.underlying t = some (.slice e)) (hok : okT P e = true)
    (hs : VRel σ (.slice s) sv) (hxr : VRel σ x xv)
    (hh : match s with
      | none => aNews h (P.cellsOf e) x fun _ _ => K (.int .i64 0) h
      | some d => aNews h (P.cellsOf e) x fun new n => guardR (new.all AV.scal) <|
          ob (if min n d.len = 0 then some h else h.puts d.id d.off (new.take (min n d.len * P.cellsOf e))) fun h' => K (.int .i64 (min n d.len)) h') :
    ∃ v h' u' σ' w', K v h' ∧ VRel σ' v u' ∧ Step σ h w σ' h' w' ∧ (Builtin.copy_ ts ty #[sv, xv]).run P w = .ok u' w' := by
  have hso := run_sizeOf_ok (P := P) (w := w) (okT_iff.1 hok).1
  cases s with
  | none =>
    obtain rfl := hs.of_slice0
    obtain ⟨new, n, us, hh, _, hx⟩ := aNews_sound (P := P) H hxr hh
    have h1 := hx.lenOf w rfl
    have h2 := hx.cells w rfl 0 (Nat.zero_le _)
    refine ⟨_, _, _, σ, w, hh, .int _ _, Step.refl H, ?_⟩
    simp [Builtin.copy_, ht, run_underlying hu, h1, hso, h2, goInt]
  | some d =>
    obtain ⟨a, len, cap, rfl, hsl⟩ := hs.of_slice
    obtain rfl := hsl.len
    obtain ⟨new, n, us, hh, hnew, hx⟩ := aNews_sound (P := P) H hxr hh
    obtain ⟨hsc, hh⟩ := guardR_iff.1 hh
    obtain ⟨h', hp, hh⟩ := ob_iff.1 hh
    have h1 := hx.lenOf w rfl
    have h2 := hx.cells w rfl (min n d.len) (Nat.min_le_left _ _)
    by_cases h0 : min n d.len = 0
    · rw [if_pos h0] at hp
      cases hp
      rw [h0] at h2
      refine ⟨_, _, .int .i64 (min n d.len), σ, w, hh, .int _ _, Step.refl H, ?_⟩
      have h0' : Nat.min n d.len = 0 := h0
      simp [Builtin.copy_, ht, run_underlying hu, h1, hso, h0', h2, goInt, storeCells]
      omega
    · rw [if_neg h0] at hp
      have hne : d.slack ≠ some 0 := fun h1 => by have := hsl.none0 h1; have := hsl.le; omega
      have hsc' : (new.take (min n d.len * P.cellsOf e)).all AV.scal = true := by
        rw [List.all_eq_true] at hsc ⊢
        exact fun v hv => hsc v (List.mem_of_mem_take hv)
      obtain ⟨w', hst, hstep⟩ := H.store (P := P) hp (hsl.at_ hne) (hnew.take _) hsc'
      refine ⟨_, _, .int .i64 (min n d.len), σ, w', hh, .int _ _, hstep, ?_⟩
      have h2' : (Builtin.firstCells (P.cellsOf e) (Nat.min n d.len) xv).run P w = .ok (us.take (min n d.len * P.cellsOf e)).toArray w := h2
      simp [Builtin.copy_, ht, run_underlying hu, h1, hso, h2', hst, goInt]
      show ((min n d.len : Nat) : Int) = _
      omega

theorem zeroCells_list (z : Array Value) (n : Nat) : (Builtin.zeroCells z n).toList = repZ z.toList n := zeroRep z n

theorem beq_flat_cell {k k0 : AV} {u v : Value} (hf : (match k with | .bool _ | .int _ _ | .str _ => true | _ => false) = true) (hb : AV.beq k k0 = true) (hu : VRel σ k u) (hv : VRel σ k0 v) (n : Nat) : Instr.sameBits n v u = true := by
  cases k <;> simp at hf <;> cases k0 <;> simp [AV.beq] at hb
  · subst hb; rw [hu.of_bool, hv.of_bool]; cases n <;> simp [Instr.sameBits]
  · obtain ⟨rfl, rfl⟩ := hb; rw [hu.of_int, hv.of_int]; cases n <;> simp [Instr.sameBits]
  · subst hb
    obtain ⟨s, rfl, hs⟩ := hu.of_str
    obtain ⟨s', rfl, hs'⟩ := hv.of_str
    have : s' = s := by
      have : s'.data = s.data := Array.toList_inj.1 (by rw [hs, hs'])
      cases s; cases s'; simp_all
    subst this
    cases n <;> simp [Instr.sameBits, beq_toListBytes]

theorem beq_flat {k k0 : AV} {u v : Value} (hf : k.flat = true) (hb : AV.beq k k0 = true) (hu : VRel σ k u) (hv : VRel σ k0 v) (n : Nat) : Instr.sameBits (n + 1) v u = true := by
  cases k with
  | agg cs =>
    cases k0 <;> simp [AV.beq] at hb
    rename_i ds
    obtain ⟨us, rfl, hus⟩ := VRel.agg_iff.1 hu
    obtain ⟨vs, rfl, hvs⟩ := VRel.agg_iff.1 hv
    simp only [AV.flat] at hf
    have key : ∀ (cs ds : List AV) (us vs : List Value), AV.beqs cs ds = true → (cs.all fun | .bool _ | .int _ _ | .str _ => true | _ => false) = true → VRels σ cs us → VRels σ ds vs → vs.length = us.length ∧ ((vs.zip us).all fun (x, y) => Instr.sameBits n x y) = true := by
      intro cs
      induction cs with
      | nil =>
        intro ds us vs h1 h2 h3 h4
        cases ds <;> simp [AV.beqs] at h1
        cases us <;> cases vs <;> simp_all [All2]
      | cons c cs ih =>
        intro ds us vs h1 h2 h3 h4
        cases ds <;> simp [AV.beqs] at h1
        cases us <;> cases vs <;> simp only [All2] at h3 h4
        rename_i d ds u us v vs
        simp only [List.all_cons, Bool.and_eq_true] at h2
        obtain ⟨i1, i2⟩ := ih ds us vs h1.2 h2.2 h3.2 h4.2
        have := beq_flat_cell h2.1 h1.1 h3.1 h4.1 n
        simp [i1, this]
        simpa using i2
    obtain ⟨i1, i2⟩ := key _ _ _ _ hb hf hus hvs
    simp only [Array.length_toList] at i1
    simp only [Instr.sameBits, i1, beq_self_eq_true, Bool.true_and]
    exact i2
  | bool b => exact beq_flat_cell rfl hb hu hv _
  | int k n => exact beq_flat_cell rfl hb hu hv _
  | str s => exact beq_flat_cell rfl hb hu hv _
  | _ => simp [AV.flat] at hf

theorem All2.modify {α β : Type} {R : α → β → Prop} (f : α → α) (g : β → β) : ∀ (i : Nat) {as : List α} {bs : List β}, All2 R as bs → (∀ a b, as[i]? = some a → bs[i]? = some b → R a b → R (f a) (g b)) → All2 R (as.modify i f) (bs.modify i g)
  | _, [], [], _, _ => by simp [All2]
  | 0, _ :: _, _ :: _, h, hr => ⟨hr _ _ rfl rfl h.1, h.2⟩
  | i + 1, _ :: _, _ :: _, h, hr => ⟨h.1, All2.modify f g i h.2 fun a b ha hb => hr a b (by simpa using ha) (by simpa using hb)⟩
  | _, [], _ :: _, h, _ => h.elim
  | _, _ :: _, [], h, _ => h.elim

theorem all2_all {α β : Type} {R : α → β → Prop} {p : α → Bool} {q : β → Bool} : ∀ {as : List α} {bs : List β}, All2 R as bs → (∀ a b, R a b → p a = q b) → as.all p = bs.all q
  | [], [], _, _ => rfl
  | a :: as, b :: bs, h, hr => by simp [hr a b h.1, all2_all h.2 hr]
  | [], _ :: _, h, _ => h.elim
  | _ :: _, [], h, _ => h.elim

theorem all2_filter {α β : Type} {R : α → β → Prop} {p : α → Bool} {q : β → Bool} : ∀ {as : List α} {bs : List β}, All2 R as bs → (∀ a b, R a b → p a = q b) → All2 R (as.filter p) (bs.filter q)
  | [], [], _, _ => trivial
  | a :: as, b :: bs, h, hr => by
    have := all2_filter h.2 hr
    simp only [List.filter_cons, hr a b h.1]
    split
    · exact ⟨h.1, this⟩
    · exact this
  | [], _ :: _, h, _ => h.elim
  | _ :: _, [], h, _ => h.elim

theorem all2_find {α β : Type} {R : α → β → Prop} : ∀ {as : List α} {bs : List β}, All2 R as bs → ∀ (p : α → Bool) (q : β → Bool), (∀ a b, R a b → p a = q b) → ∀ {a : α}, as.find? p = some a → ∃ b, bs.find? q = some b ∧ R a b
  | [], [], _, _, _, _, _, h => by simp at h
  | a :: as, b :: bs, h, p, q, hr, x, hx => by
    simp only [List.find?_cons, hr a b h.1] at hx ⊢
    split at hx
    · rename_i hq; cases hx; exact ⟨b, by simp, h.1⟩
    · rename_i hq; exact all2_find h.2 p q hr hx
  | [], _ :: _, h, _, _, _, _, _ => h.elim
  | _ :: _, [], h, _, _, _, _, _ => h.elim

theorem all2_some : ∀ {as : List MEnt} {bs : List MapEntry}, All2 (ERel σ) as bs →
    All2 (fun (a : Option MEnt) (b : Option MapEntry) => match a, b with | none, none => True | some a, some b => ERel σ a b | _, _ => False) (as.map some) (bs.map some)
  | [], [], _ => trivial
  | _ :: _, _ :: _, h => ⟨h.1, all2_some h.2⟩
  | [], _ :: _, h => h.elim
  | _ :: _, [], h => h.elim

theorem choose_mapNext {n : Nat} (hn : 0 < n) : ∃ ix w1, (choose (.mapNext n)).run P w = .ok ix w1 ∧ ix < n ∧ (w1 = w ∨ w1 = w.drew) := by
  rw [run_choose]
  split
  · exact ⟨0, w, rfl, hn, .inl rfl⟩
  · exact ⟨_, _, rfl, Nat.mod_lt _ hn, .inr rfl⟩

/-- A map is written. -/
theorem Step.setMap (H : HRel σ h w) {r b dsz : Nat} {es es2 : List MEnt} {ck ck2 : Nat} {es2' : Array MapEntry} (hs : σ[r]? = some (.live b 0 dsz)) (hr : h[r]? = some (.map es ck)) (hall : All2 (ERel σ) es2 es2'.toList) :
    Step σ h w σ (h.set r (.map es2 ck2)) { w with heap := w.heap.setIfInBounds b (.map es2' ck2) } := by
  have hlt := H.live_lt hs
  exact Step.upd (w' := setBlk w b (.map es2' ck2)) H hs hr rfl rfl rfl rfl (by rw [setBlk_size]; exact Nat.le_refl _) (fun k _ hk => setBlk_other hk) ⟨rfl, es2', setBlk_same hlt, hall⟩

/-- An operation that acts and is no call of a function. -/
theorem eff_sound (H : HRel σ h w) {C : CallP} {o : Oper} {env : List AV} {a : Act} {K : AV → AH → Prop} (he : EnvRel σ env a) (hh : aEff P C o env h K)
    (hnc : ∀ c f, o.op = .call c → c.callee ≠ .value f) :
    ∃ v h' u σ' w', K v h' ∧ VRel σ' v u ∧ Step σ h w σ' h' w' ∧ ((execOp a.eval o).run P w = .ok (.value u) w' ∨ ((execOp a.eval o).run P w = .ok .skip w' ∧ u = undef)) := by
  obtain ⟨dst, op, type, pos, after, guard⟩ := o
  unfold aEff at hh
  cases op <;> simp only at hh <;> try exact hh.elim
  case store t x y =>
    have hx := ev_rel he x
    have hy := ev_rel he y
    rw [chkPtr_ob] at hh
    split at hh
    · rename_i p hp
      rw [hp] at hx
      obtain ⟨i, o⟩ := p
      obtain ⟨b, hb, hab⟩ := hx.of_ptr
      obtain ⟨⟨hok, hsz, hsc⟩, hh⟩ := ite_fail.1 hh
      obtain ⟨h', hpu, hh⟩ := ob_iff.1 hh
      have hso := run_sizeOf_ok (P := P) (w := w) (okT_iff.1 hok).1
      have hnb : ev env y ≠ .bot := by
        intro h0; rw [h0] at hsc; simp [cellsOf, AV.scal] at hsc
      have hcr := cellsOf_rel hy hnb
      have hl := hcr.length
      simp only [Array.length_toList] at hl
      obtain ⟨w', hst, hstep⟩ := H.store (P := P) hpu hab hcr hsc
      refine ⟨_, _, undef, σ, w', hh, .bot _, hstep, .inr ⟨?_, rfl⟩⟩
      simp [execOp, hb, Instr.storeAt, Instr.sureAddr, storeVar, hso, ← hl, hsz, hst]
    · exact hh.elim
  case mapUpdate t m k x =>
    split at hh
    · rename_i key elem ht
      obtain ⟨ik, zk, hik, hzk, hh⟩ := zeroOf_iff.1 hh
      have hh := chkOne_imp hh
      have hund := aKey_und hh
      have hk := ev_rel he k
      have hm := ev_rel he m
      have hxr := ev_rel he x
      have hktrue := aKey_true hh
      obtain ⟨hh, _⟩ := aKey_sound (P := P) (w := w) (em := true) 20 (n := 10000) (by omega) key _ _ _ hh hk
      have hh := chkT_imp hh
      rw [chkMap_ob] at hh
      split at hh
      · rename_i r hp
        rw [hp] at hm
        obtain ⟨b, hmb, hrb⟩ := hm.of_map
        obtain ⟨⟨es, ck⟩, hes, hh⟩ := ob_iff.1 hh
        obtain ⟨es', dsz, hb, hall, hsr, hhr⟩ := H.mapAt hes hrb
        have hgo := MapKept.run_getObj_map (P := P) hb
        have hck : (Instr.checkKey false 10000 key (a.eval k)).run P w = .ok () w := (aKey_sound (P := P) (w := w) 20 (n := 10000) (by omega) key _ _ _ hktrue hk).2
        rcases findIx_sound (P := P) (w := w) hk hall hh with ⟨j, e, e', hh, hej, hej', hbq, hfl, h6, h7⟩ | ⟨hh, h6, h7⟩
        · have hfk := run_findKey_of (P := P) (w := w) hund (h6 0) fun d hd r hr => h7 d hd 0 r hr
          have hee : ERel σ e e' := by
            obtain ⟨e2, h1, h2⟩ := hall.get j e hej
            rw [hej'] at h1; cases h1; exact h2
          have hsame := beq_flat hfl hbq hk hee.1 9999
          have hstay : (Instr.keyThatStays ((es'[j]?.map (·.key)).getD (a.eval k)) (a.eval k)).run P w = .ok (a.eval k) w := by
            rw [Array.getElem?_toList] at hej'
            rw [hej']
            simp only [Option.map_some, Option.getD_some, Instr.keyThatStays]
            rw [if_pos hsame]; rfl
          simp only [Nat.zero_add] at hh hfk
          have hall2 : All2 (ERel σ) (es.modify j (setEnt (ev env k) (ev env x))) (es'.modify j fun e => { e with key := a.eval k, val := a.eval x }).toList := by
            rw [Array.toList_modify]
            exact All2.modify _ _ j hall fun c d _ _ hcd => ⟨hk, hxr, hcd.2.2⟩
          refine ⟨_, _, undef, σ, _, hh, .bot _, Step.setMap H hsr hhr hall2, .inr ⟨?_, rfl⟩⟩
          have hso := MapKept.run_setObj_map (P := P) (Obj.map (es'.modify j fun e => { e with key := a.eval k, val := a.eval x }) ck) hb
          simp [execOp, hmb, Instr.mapUpdate, run_underlying ht, hgo, hck, hfk, hstay, hso]
        · have hfk := run_findKey_of (P := P) (w := w) hund (h6 0) fun d hd r hr => h7 d hd 0 r hr
          have hall2 : All2 (ERel σ) (es ++ [⟨ev env k, ev env x, ck⟩]) (es'.push { key := a.eval k, val := a.eval x, born := ck }).toList := by
            rw [Array.toList_push]
            exact hall.snoc ⟨hk, hxr, rfl⟩
          refine ⟨_, _, undef, σ, _, hh, .bot _, Step.setMap H hsr hhr hall2, .inr ⟨?_, rfl⟩⟩
          have hso := MapKept.run_setObj_map (P := P) (Obj.map (es'.push { key := a.eval k, val := a.eval x, born := ck }) (ck + 1)) hb
          simp [execOp, hmb, Instr.mapUpdate, run_underlying ht, hgo, hck, hfk, hso]
      · exact hh.elim
    · exact hh.elim
  case range t x =>
    have hx := ev_rel he x
    split at hh
    · rename_i k e ht hp
      rw [hp] at hx
      have hb := hx.of_map0
      refine ⟨_, _, .pointer (some ⟨w.heap.size, 0, none⟩), _, w.alloc (.mapIter none 0 #[] 0), hh, ?_, Step.new (dsz := 0) H rfl rfl rfl (by simp) (fun k hk => heap_alloc_old w _ k hk) ⟨rfl, none, heap_alloc_new w _, trivial⟩, .inl ?_⟩
      · exact ARel.fresh (dsz := 0) (by rw [← H.len]; simp)
      · simp [execOp, hb, Instr.range, run_underlying ht]
    · rename_i k e m ht hp
      rw [hp] at hx
      obtain ⟨b, hmb, hrb⟩ := hx.of_map
      obtain ⟨⟨es, ck⟩, hes, hh⟩ := ob_iff.1 hh
      obtain ⟨es', dsz, hb, hall, hsr, hhr⟩ := H.mapAt hes hrb
      have hgo := MapKept.run_getObj_map (P := P) hb
      refine ⟨_, _, .pointer (some ⟨w.heap.size, 0, none⟩), _, w.alloc (.mapIter (some b) ck #[] ck), hh, ?_, Step.new (dsz := 0) H rfl rfl rfl (by simp) (fun k hk => heap_alloc_old w _ k hk) ⟨rfl, some b, heap_alloc_new w _, hrb.mono (SigLe.append _ _)⟩, .inl ?_⟩
      · exact ARel.fresh (dsz := 0) (by rw [← H.len]; simp)
      · simp [execOp, hmb, Instr.range, run_underlying ht, hgo]
    · exact hh.elim
  case next it isString =>
    have hx := ev_rel he it
    split at hh
    · rename_i r hp
      rw [hp] at hx
      obtain ⟨ad, hb, hab⟩ := hx.of_ptr
      cases isString
      case true => exact hh.elim
      simp only [cond_false] at hh
      split at hh
      · rename_i s1 s2 s3 hit
        obtain ⟨e, hes, hB⟩ := H.lookup hit
        cases e <;> simp only [BRel] at hB
        rename_i b' base dsz
        obtain ⟨rfl, m', hblk, hom⟩ := hB
        have had : ad = ⟨b', 0, none⟩ := by unfold ARel at hab; rw [hes] at hab; simpa using hab
        subst had
        have hm' : m' = none := by cases m' <;> simp_all [OMRel]
        subst hm'
        refine ⟨_, _, .tuple #[.bool false], σ, w, hh, VRel.tup_iff.2 ⟨_, rfl, .bool _, trivial⟩, Step.refl H, .inl ?_⟩
        have hgo : (getObj b').run P w = .ok (.mapIter none s1 s2.toArray s3) w := by simp [getObj, Sem.run, hblk]
        simp [execOp, hb, Instr.next, hgo]
      · rename_i m since seen last hit
        obtain ⟨⟨es, ck⟩, hem, hh⟩ := ob_iff.1 hh
        obtain ⟨e, hes, hB⟩ := H.lookup hit
        cases e <;> simp only [BRel] at hB
        rename_i b' base dsz
        obtain ⟨rfl, m', hblk, hom⟩ := hB
        have had : ad = ⟨b', 0, none⟩ := by unfold ARel at hab; rw [hes] at hab; simpa using hab
        subst had
        obtain ⟨mb, rfl⟩ : ∃ mb, m' = some mb := by cases m' <;> simp_all [OMRel]
        obtain ⟨es', dsz', hmb, hall, hsr, hhr⟩ := H.mapAt hem hom
        have hgo : (getObj b').run P w = .ok (.mapIter (some mb) since seen.toArray last) w := by simp [getObj, Sem.run, hblk]
        have hgm := MapKept.run_getObj_map (P := P) hmb
        simp only [ite_fail'] at hh
        obtain ⟨hno, hh⟩ := hh
        have hem1 : (!seen.toArray.isEmpty && !es'.isEmpty && es'.all (fun e => decide (e.born ≥ last))) = false := by
          rw [← Bool.not_eq_true]
          intro hc
          refine hno ?_
          rw [← hc]
          congr 1
          · congr 1
            · simp
            · congr 1
              rw [Bool.eq_iff_iff, List.isEmpty_iff, Array.isEmpty_iff, ← List.length_eq_zero_iff, ← Array.size_eq_zero_iff, hall.length, Array.length_toList]
          · rw [← Array.all_toList]
            exact all2_all hall fun a b hab => by rw [hab.2.2]
        have hleft : All2 (ERel σ) (es.filter fun e => !seen.contains e.born) (es'.filter fun e => !seen.toArray.contains e.born).toList := by
          rw [Array.toList_filter]
          exact all2_filter hall fun a b hab => by rw [hab.2.2]; simp
        have hold : All2 (ERel σ) ((es.filter fun e => !seen.contains e.born).filter (·.born < since)) ((es'.filter fun e => !seen.toArray.contains e.born).filter (·.born < since)).toList := by
          rw [Array.toList_filter]
          exact all2_filter hleft fun a b hab => by rw [hab.2.2]
        have hnew : All2 (ERel σ) ((es.filter fun e => !seen.contains e.born).filter fun e => e.born ≥ since) ((es'.filter fun e => !seen.toArray.contains e.born).filter (·.born ≥ since)).toList := by
          rw [Array.toList_filter]
          exact all2_filter hleft fun a b hab => by rw [hab.2.2]
        generalize hO : ((es.filter fun e => !seen.contains e.born).filter (·.born < since)) = O at hold hh
        generalize hN : ((es.filter fun e => !seen.contains e.born).filter fun e => e.born ≥ since) = N at hnew hh
        generalize hO' : ((es'.filter fun e => !seen.toArray.contains e.born).filter (·.born < since)) = O' at hold
        generalize hN' : ((es'.filter fun e => !seen.toArray.contains e.born).filter (·.born ≥ since)) = N' at hnew
        have hemp : O.isEmpty = O'.isEmpty := by
          rw [Bool.eq_iff_iff, List.isEmpty_iff, Array.isEmpty_iff, ← List.length_eq_zero_iff, ← Array.size_eq_zero_iff, hold.length, Array.length_toList]
        have hcands : All2 (fun (a : Option MEnt) (b : Option MapEntry) => match a, b with | none, none => True | some a, some b => ERel σ a b | _, _ => False)
            ((if O.isEmpty then [none] else []) ++ (O ++ N).map some) ((if O'.isEmpty then #[none] else #[]) ++ (O' ++ N').map some).toList := by
          rw [Array.toList_append, Array.toList_map, Array.toList_append, hemp]
          refine All2.append ?_ (all2_some (hold.append hnew))
          split
          · exact ⟨trivial, trivial⟩
          · trivial
        generalize hcs : ((if O.isEmpty then [none] else []) ++ (O ++ N).map some) = cs at hcands hh
        generalize hcs' : ((if O'.isEmpty then #[none] else #[]) ++ (O' ++ N').map some) = cs' at hcands
        have hpos : 0 < cs'.size := by
          rw [← hcs']
          cases hq : O'.isEmpty
          · have : O' ≠ #[] := by intro h0; rw [h0] at hq; simp at hq
            have := Array.size_pos_iff.2 this
            simp; omega
          · simp; omega
        obtain ⟨ix, w1, hch, hix, hw1⟩ := choose_mapNext (P := P) (w := w) hpos
        have hlen := hcands.length
        simp only [Array.length_toList] at hlen
        have hh := hh ix (by rw [hlen]; exact hix)
        simp only at hh
        have hw1h : w1.heap = w.heap := by rcases hw1 with rfl | rfl <;> rfl
        have hst1 : Step σ h w σ h w1 := by
          rcases hw1 with rfl | rfl
          · exact Step.refl H
          · exact Step.drew H rfl rfl rfl rfl
        split at hh
        · rename_i e0 hce
          obtain ⟨oe, hoe, hre⟩ := hcands.get ix _ hce
          cases oe with
          | none => exact hre.elim
          | some e1 =>
            rw [Array.getElem?_toList] at hoe
            have hset : (setObj b' (.mapIter (some mb) since (seen.toArray.push e1.born) ck)).run P w1 = .ok () (setBlk w1 b' (.mapIter (some mb) since (seen.toArray.push e1.born) ck)) := by
              simp [setObj, Sem.run, hw1h, hblk, setBlk]
            have hlt := H.live_lt hes
            have hst2 : Step σ h w1 σ (h.set r (.iter (some m) since (seen ++ [e0.born]) ck)) (setBlk w1 b' (.mapIter (some mb) since (seen.toArray.push e1.born) ck)) :=
              Step.upd hst1.rel hes hit rfl rfl rfl rfl (by rw [setBlk_size]; exact Nat.le_refl _) (fun k _ hk => setBlk_other hk)
                ⟨rfl, some mb, by rw [setBlk_same (by rw [hw1h]; exact hlt)]; simp [hre.2.2], hom⟩
            refine ⟨_, _, .tuple #[.bool true, e1.key, e1.val], σ, _, hh, VRel.tup_iff.2 ⟨#[.bool true, e1.key, e1.val], rfl, .bool _, hre.1, hre.2.1, trivial⟩, hst1.trans hst2, .inl ?_⟩
            simp only [execOp, hb, Instr.next, Sem.run_bind, Sem.run_pure, Result.andThen_ok, hgo, hgm, Sem.run_ite, hem1, Bool.false_eq_true, if_false, hO', hN', hcs', hch, hoe, hset]
        · rename_i hce
          obtain ⟨oe, hoe, hre⟩ := hcands.get ix _ hce
          cases oe with
          | some e1 => exact hre.elim
          | none =>
            rw [Array.getElem?_toList] at hoe
            refine ⟨_, _, .tuple #[.bool false], σ, w1, hh, VRel.tup_iff.2 ⟨#[.bool false], rfl, .bool _, trivial⟩, hst1, .inl ?_⟩
            simp only [execOp, hb, Instr.next, Sem.run_bind, Sem.run_pure, Result.andThen_ok, hgo, hgm, Sem.run_ite, hem1, Bool.false_eq_true, if_false, hO', hN', hcs', hch, hoe]
        · exact hh.elim
      · exact hh.elim
    · exact hh.elim
  case entry it =>
    have hx := ev_rel he it
    split at hh
    · rename_i r hp
      rw [hp] at hx
      obtain ⟨ad, hb, hab⟩ := hx.of_ptr
      split at hh
      · rename_i m since seen stepped hit
        obtain ⟨⟨es, ck⟩, hem, hh1⟩ := ob_iff.1 hh
        obtain ⟨stamp, hst, hh2⟩ := ob_iff.1 hh1
        obtain ⟨hck, hh3⟩ := ite_fail.1 hh2
        obtain ⟨e0, hfe, hK⟩ := ob_iff.1 hh3
        obtain ⟨e, hes, hB⟩ := H.lookup hit
        cases e <;> simp only [BRel] at hB
        rename_i b' base dsz
        obtain ⟨rfl, m', hblk, hom⟩ := hB
        have had : ad = ⟨b', 0, none⟩ := by unfold ARel at hab; rw [hes] at hab; simpa using hab
        rw [had] at hb
        obtain ⟨mb, rfl⟩ : ∃ mb, m' = some mb := by cases m' <;> simp_all [OMRel]
        obtain ⟨es', dsz', hmb, hall, hsr, hhr⟩ := H.mapAt hem hom
        have hgo : (getObj b').run P w = .ok (.mapIter (some mb) since seen.toArray stepped) w := by simp [getObj, Sem.run, hblk]
        have hgm := MapKept.run_getObj_map (P := P) hmb
        have hck' : ck = stepped := hck
        obtain ⟨e1, hfe', hee⟩ := all2_find hall (fun e => e.born == stamp) (fun e => e.born == stamp) (fun a b hab => by rw [hab.2.2]) hfe
        have hfa : es'.find? (fun e => e.born == stamp) = some e1 := by rw [← Array.find?_toList]; exact hfe'
        have hback : seen.toArray.back? = some stamp := by simpa using hst
        refine ⟨_, _, .tuple #[e1.key, e1.val], σ, w, hK, VRel.tup_iff.2 ⟨#[e1.key, e1.val], rfl, hee.1, hee.2.1, trivial⟩, Step.refl H, .inl ?_⟩
        simp [execOp, hb, Instr.entry, hgo, hback, hgm, hfa, hck']
      · exact hh.elim
    · exact hh.elim
  case call c =>
    obtain ⟨callee, args, argTypes⟩ := c
    cases callee <;> simp only at hh
    case value f => exact absurd rfl (hnc _ f rfl)
    case invoke => exact hh.elim
    rename_i b
    have hargs := evs_rel_arr he args
    have hexec : ∀ (s : Sem Value) (u : Value) (w' : World), (∀ consts, builtin b argTypes type consts (args.map a.eval) = (do pure (.value (← s)))) → s.run P w = .ok u w' →
        (execOp a.eval { dst := dst, op := .call { callee := .builtin b, args := args, argTypes := argTypes }, type := type, pos := pos, after := after, guard := guard }).run P w = .ok (.value u) w' := by
      intro s u w' h1 h2
      simp only [execOp, resolve, invoke, Sem.run_bind, Sem.run_pure, Result.andThen_ok]
      rw [h1]; simp [h2]
    unfold aBuiltin at hh
    cases b <;> simp only at hh <;> try exact hh.elim
    case append =>
      split at hh
      · rename_i t u sx x hts hxs
        obtain rfl : argTypes = #[t, u] := Array.toList_inj.1 hts
        split at hh
        · rename_i e d ht hu
          obtain ⟨hd, hh⟩ := guardR_iff.1 hh
          obtain ⟨s, hsx, hh⟩ := chkSl_iff.1 hh
          rw [hxs] at hargs
          cases hva : (args.map a.eval).toList with
          | nil => rw [hva] at hargs; exact hargs.elim
          | cons sv l1 =>
            cases l1 with
            | nil => rw [hva] at hargs; exact hargs.2.elim
            | cons xv l2 =>
              rw [hva] at hargs
              have hl2 : l2 = [] := by
                have := hargs.length; simpa using this
              subst hl2
              have hva' : args.map a.eval = #[sv, xv] := Array.toList_inj.1 hva
              obtain ⟨hsr, hxr, _⟩ := hargs
              rw [hsx] at hsr
              obtain ⟨new, n, us, hh, hnew, hx⟩ := aNews_sound (P := P) H hxr hh
              obtain ⟨i, z, hi, hz, hh⟩ := zeroOf_iff.1 hh
              simp only [guardR_iff, Bool.and_eq_true, zOk, beq_iff_eq, bne_iff_ne, ne_eq] at hh
              obtain ⟨⟨⟨⟨hzs, hsc⟩, hb0⟩, hs0⟩, hh⟩ := hh
              have e1 : P.cellsOf e = i.size := by simp [Program.cellsOf, hi]
              have e2 : P.bytesOf e = i.bytes := by simp [Program.bytesOf, hi]
              rw [e1] at hzs hs0 hx hh
              rw [e2] at hb0 hh
              obtain ⟨v, h', u', σ', w', hK, hv, hst, hrun⟩ := append_sound (ty := type) H ht hu hd hi hz hzs hb0 hs0 hx hnew hsc hsr hh
              refine ⟨v, h', u', σ', w', hK, hv, hst, .inl (hexec _ u' w' (fun _ => rfl) ?_)⟩
              rw [hva']; exact hrun
        · exact hh.elim
      · exact hh.elim
    case copy =>
      split at hh
      · rename_i t ts dx x hts hxs
        split at hh
        · rename_i e hu
          obtain ⟨hok, hh⟩ := guardR_iff.1 hh
          obtain ⟨s, hsx, hh⟩ := chkSl_iff.1 hh
          rw [hxs] at hargs
          cases hva : (args.map a.eval).toList with
          | nil => rw [hva] at hargs; exact hargs.elim
          | cons sv l1 =>
            cases l1 with
            | nil => rw [hva] at hargs; exact hargs.2.elim
            | cons xv l2 =>
              rw [hva] at hargs
              have hl2 : l2 = [] := by
                have := hargs.length; simpa using this
              subst hl2
              have hva' : args.map a.eval = #[sv, xv] := Array.toList_inj.1 hva
              obtain ⟨hsr, hxr, _⟩ := hargs
              rw [hsx] at hsr
              have ht0 : argTypes[0]? = some t := by rw [← Array.getElem?_toList, hts]; rfl
              obtain ⟨v, h', u', σ', w', hK, hv, hst, hrun⟩ := copy_sound (ty := type) (K := K) H ht0 hu hok hsr hxr (by cases s <;> exact hh)
              refine ⟨v, h', u', σ', w', hK, hv, hst, .inl (hexec _ u' w' (fun _ => rfl) ?_)⟩
              rw [hva']; exact hrun
        · exact hh.elim
      · exact hh.elim
    case clear =>
      have ht0 : ∀ d, argTypes.toList.head?.bind P.underlying = some d → ∃ t, argTypes[0]? = some t ∧ P.underlying t = some d := by
        intro d hd
        obtain ⟨t, h1, h2⟩ := Option.bind_eq_some_iff.1 hd
        refine ⟨t, ?_, h2⟩
        rw [← Array.getElem?_toList, ← List.head?_eq_getElem?]; exact h1
      have one : ∀ x, args.toList.map (ev env) = [x] → ∃ u, args.map a.eval = #[u] ∧ VRel σ x u := by
        intro x hx
        rw [hx] at hargs
        cases hva : (args.map a.eval).toList with
        | nil => rw [hva] at hargs; exact hargs.elim
        | cons sv l1 =>
          rw [hva] at hargs
          have hl2 : l1 = [] := by have := hargs.length; simpa using this
          subst hl2
          exact ⟨sv, Array.toList_inj.1 hva, hargs.1⟩
      split at hh
      · rename_i e s htt hxs
        obtain ⟨t, ht, hu⟩ := ht0 _ htt
        obtain ⟨u, hva, hur⟩ := one _ hxs
        obtain ⟨b, len, cap, rfl, hsl⟩ := hur.of_slice
        obtain rfl := hsl.len
        split at hh
        · rename_i h0
          refine ⟨_, _, .tuple #[], σ, w, hh, VRel.tup_iff.2 ⟨#[], rfl, trivial⟩, Step.refl H, .inl (hexec _ _ _ (fun _ => rfl) ?_)⟩
          rw [hva]; simp [Builtin.clear_, ht, run_underlying hu, h0]
        · rename_i h0
          obtain ⟨i, z, hi, hz, hh⟩ := zeroOf_iff.1 hh
          simp only [guardR_iff, Bool.and_eq_true, ob_iff] at hh
          obtain ⟨⟨hzs, hsc⟩, h', hp, hh⟩ := hh
          have hrz := run_zero_ok (P := P) (w := w) hi hz
          have hne : s.slack ≠ some 0 := fun h1 => by have := hsl.none0 h1; have := hsl.le; omega
          have hsc' : (repZero (z.cells.toList.map ofCell) s.len).all AV.scal = true := by
            have : ∀ n, (repZero (z.cells.toList.map ofCell) n).all AV.scal = true := by
              intro n
              induction n with
              | zero => rfl
              | succ n ih => simp only [repZero, List.all_append, hsc, ih, Bool.and_self]
            exact this _
          obtain ⟨w', hst, hstep⟩ := H.store (P := P) hp (hsl.at_ hne) (repZero_rel z.cells.toList s.len) hsc'
          refine ⟨_, _, .tuple #[], σ, w', hh, VRel.tup_iff.2 ⟨#[], rfl, trivial⟩, hstep, .inl (hexec _ _ _ (fun _ => rfl) ?_)⟩
          rw [hva]
          obtain ⟨m, hm⟩ : ∃ m, s.len = m + 1 := ⟨s.len - 1, by omega⟩
          have hst' : (storeCells b (Builtin.zeroCells z.cells s.len).toList).run P w = .ok () w' := by rw [zeroCells_list]; exact hst
          rw [hm] at hst' ⊢
          simp [Builtin.clear_, ht, run_underlying hu, hrz, hst']
      · rename_i e htt hxs
        obtain ⟨t, ht, hu⟩ := ht0 _ htt
        obtain ⟨u, hva, hur⟩ := one _ hxs
        obtain rfl := hur.of_slice0
        refine ⟨_, _, .tuple #[], σ, w, hh, VRel.tup_iff.2 ⟨#[], rfl, trivial⟩, Step.refl H, .inl (hexec _ _ _ (fun _ => rfl) ?_)⟩
        rw [hva]; simp [Builtin.clear_, ht, run_underlying hu]
      · rename_i k e htt hxs
        obtain ⟨t, ht, hu⟩ := ht0 _ htt
        obtain ⟨u, hva, hur⟩ := one _ hxs
        obtain rfl := hur.of_map0
        refine ⟨_, _, .tuple #[], σ, w, hh, VRel.tup_iff.2 ⟨#[], rfl, trivial⟩, Step.refl H, .inl (hexec _ _ _ (fun _ => rfl) ?_)⟩
        rw [hva]; simp [Builtin.clear_, ht, run_underlying hu]
      · rename_i k e r htt hxs
        obtain ⟨t, ht, hu⟩ := ht0 _ htt
        obtain ⟨u, hva, hur⟩ := one _ hxs
        obtain ⟨mb, rfl, hrb⟩ := hur.of_map
        obtain ⟨⟨es, ck⟩, hes, hh⟩ := ob_iff.1 hh
        obtain ⟨es', dsz, hb, hall, hsr, hhr⟩ := H.mapAt hes hrb
        have hgo := MapKept.run_getObj_map (P := P) hb
        have hso := MapKept.run_setObj_map (P := P) (Obj.map #[] ck) hb
        refine ⟨_, _, .tuple #[], σ, _, hh, VRel.tup_iff.2 ⟨#[], rfl, trivial⟩, Step.setMap (es2' := #[]) H hsr hhr trivial, .inl (hexec _ _ _ (fun _ => rfl) ?_)⟩
        rw [hva]; simp [Builtin.clear_, ht, run_underlying hu, hgo, hso]
      · exact hh.elim
    case delete =>
      split at hh
      · rename_i key e r k htt hxs
        obtain ⟨t, h1, hu⟩ := Option.bind_eq_some_iff.1 htt
        have ht : argTypes[0]? = some t := by rw [← Array.getElem?_toList, ← List.head?_eq_getElem?]; exact h1
        rw [hxs] at hargs
        cases hva : (args.map a.eval).toList with
        | nil => rw [hva] at hargs; exact hargs.elim
        | cons mv l1 =>
          cases l1 with
          | nil => rw [hva] at hargs; exact hargs.2.elim
          | cons kv l2 =>
            rw [hva] at hargs
            have hl2 : l2 = [] := by
              have := hargs.length; simpa using this
            subst hl2
            have hva' : args.map a.eval = #[mv, kv] := Array.toList_inj.1 hva
            obtain ⟨hm, hk, _⟩ := hargs
            obtain ⟨mb, rfl, hrb⟩ := hm.of_map
            obtain ⟨ik, zk, hik, hzk, hh⟩ := zeroOf_iff.1 hh
            have hh := chkOne_imp hh
            have hund := aKey_und hh
            have hktrue := aKey_true hh
            obtain ⟨hh, _⟩ := aKey_sound (P := P) (w := w) (em := true) 20 (n := 10000) (by omega) key _ _ _ hh hk
            obtain ⟨⟨es, ck⟩, hes, hh⟩ := ob_iff.1 hh
            obtain ⟨es', dsz, hb, hall, hsr, hhr⟩ := H.mapAt hes hrb
            have hgo := MapKept.run_getObj_map (P := P) hb
            have hck : (Instr.checkKey es'.isEmpty 10000 key kv).run P w = .ok () w := (aKey_sound (P := P) (w := w) 20 (n := 10000) (by omega) key _ _ _ hktrue hk).2
            rcases findIx_sound (P := P) (w := w) hk hall hh with ⟨j, e, e', hh, hej, hej', _, _, h6, h7⟩ | ⟨hh, h6, h7⟩
            · have hfk := run_findKey_of (P := P) (w := w) hund (h6 0) fun d hd r hr => h7 d hd 0 r hr
              simp only [Nat.zero_add] at hh hfk
              have hall2 : All2 (ERel σ) (es.eraseIdx j) (es'.eraseIdxIfInBounds j).toList := by
                rw [Array.toList_eraseIdxIfInBounds]; exact hall.eraseIdx j
              have hso := MapKept.run_setObj_map (P := P) (Obj.map (es'.eraseIdxIfInBounds j) ck) hb
              refine ⟨_, _, .tuple #[], σ, _, hh, VRel.tup_iff.2 ⟨#[], rfl, trivial⟩, Step.setMap H hsr hhr hall2, .inl (hexec _ _ _ (fun _ => rfl) ?_)⟩
              rw [hva']; simp [Builtin.delete_, ht, run_underlying hu, hgo, hck, hfk, hso]
            · have hfk := run_findKey_of (P := P) (w := w) hund (h6 0) fun d hd r hr => h7 d hd 0 r hr
              have hso := MapKept.run_setObj_map (P := P) (Obj.map es' ck) hb
              have hst := Step.setMap (es2' := es') (ck2 := ck) H hsr hhr hall
              have hsame : h.set r (.map es ck) = h := by
                obtain ⟨hlt, heq⟩ := List.getElem?_eq_some_iff.1 hhr
                rw [← heq]; exact List.set_getElem_self hlt
              rw [hsame] at hst
              refine ⟨_, _, .tuple #[], σ, _, hh, VRel.tup_iff.2 ⟨#[], rfl, trivial⟩, hst, .inl (hexec _ _ _ (fun _ => rfl) ?_)⟩
              rw [hva']; simp [Builtin.delete_, ht, run_underlying hu, hgo, hck, hfk, hso]
      · exact hh.elim

end
end Go.Abs
