/- Words for proofs over printed readings: bytes, appends, slices of one's own. -/
import Derived.Test.YtdpecfeofcibhaaB1
namespace Go.Abs

/-- A byte's cell. -/
def u8 (b : UInt8) : AV := .int .u8 b.toNat
@[simp] theorem u8_scal (b : UInt8) : AV.scal (u8 b) = true := rfl
theorem u8_lit (n : Nat) (hn : n < 256) : (.int .u8 (n : Int) : AV) = u8 (UInt8.ofNat n) := by
  unfold u8; rw [UInt8.toNat_ofNat_of_lt' hn]
@[simp] theorem chkInt_u8 (b : UInt8) (K : Int → Prop) : chkInt .u8 (u8 b) K = K (b.toNat : Int) := by unfold u8; rw [chkInt_int]
def bys (l : List UInt8) : List AV := l.map u8
@[simp] theorem bys_length (l : List UInt8) : (bys l).length = l.length := by simp [bys]
@[simp] theorem bys_nil : bys [] = [] := rfl
@[simp] theorem bys_append (a b : List UInt8) : bys (a ++ b) = bys a ++ bys b := by simp [bys]
theorem bys_take (n : Nat) (l : List UInt8) : (bys l).take n = bys (l.take n) := by simp [bys, List.map_take]
theorem bys_drop (n : Nat) (l : List UInt8) : (bys l).drop n = bys (l.drop n) := by simp [bys, List.map_drop]
@[simp] theorem bys_get (l : List UInt8) (i : Nat) : (bys l)[i]? = l[i]?.map u8 := by simp [bys]
theorem bys_scal (l : List UInt8) : (bys l).all AV.scal = true := by simp [bys]
theorem bys_eq_nil {l : List UInt8} : bys l = [] ↔ l = [] := by simp [bys]
theorem u8_inj {a b : UInt8} (h : u8 a = u8 b) : a = b := by
  unfold u8 at h
  injection h with _ h
  exact UInt8.toNat_inj.1 (by omega)
theorem bys_inj : ∀ {a b : List UInt8}, bys a = bys b → a = b
  | [], [], _ => rfl
  | [], _ :: _, h => by simp [bys] at h
  | _ :: _, [], h => by simp [bys] at h
  | x :: a, y :: b, h => by
    simp only [bys, List.map_cons, List.cons.injEq] at h
    rw [u8_inj h.1, bys_inj h.2]
theorem bytesOf_bys : ∀ l : List UInt8, bytesOf (bys l) = some l
  | [] => rfl
  | b :: l => by
    show (byteOf (u8 b)).bind _ = _
    have : byteOf (u8 b) = some b := by
      show some (UInt8.ofNat ((b.toNat : Int).toNat)) = some b
      simp
    rw [this]
    show (bytesOf (bys l)).map (b :: ·) = _
    rw [bytesOf_bys l]; rfl

/-- Bytes that a slice has. -/
abbrev By (h : AH) (x : Option Sl) (l : List UInt8) : Prop := SlAt h 1 x (bys l)

theorem By.len {h : AH} {x : Option Sl} {l : List UInt8} (a : By h x l) : lenO x = l.length := by
  have := SlAt.len a; simpa using this
theorem By.at_ {h : AH} {s : Sl} {l : List UInt8} (a : By h (some s) l) {k : Nat} (hk : k < l.length) : h.cell s.id (s.off + k) = some (u8 l[k]) := by
  rw [SlAt.at_ a (by simpa using hk), bys_get, List.getElem?_eq_getElem hk]; rfl

theorem aBytes_by {h : AH} {x : Option Sl} {l : List UInt8} (a : By h x l) (K : Req → List UInt8 → Prop) : ∃ q, aBytes h x K = K q l := by
  cases x with
  | none =>
    have : l = [] := bys_eq_nil.1 a
    subst this; exact ⟨_, rfl⟩
  | some s =>
    have hl : s.len = l.length := By.len a
    unfold aBytes
    by_cases h0 : s.len = 0
    · have : l = [] := by rw [h0] at hl; exact List.length_eq_zero_iff.1 hl.symm
      subst this
      exact ⟨.none, by simp [h0]⟩
    · have := a.2.2 (by rw [ne_eq, bys_eq_nil]; intro h; subst h; simp at hl; exact h0 hl)
      rw [Nat.mul_one] at this
      exact ⟨.cells s.id s.off s.len (bys l), by simp [h0, this, bytesOf_bys]⟩

/-- A slice that was just made. -/
theorem SlAt.lit {h : AH} {sz i o n c : Nat} {cs : List AV} (e : h.cellsAt i o (n * sz) = some cs) (hc : n ≤ c) : SlAt h sz (some ⟨i, o, n, c, none⟩) cs :=
  ⟨⟨hc, .inl rfl⟩, (cellsAt_len e).symm, fun _ => e⟩
theorem SlAt.made {h : AH} {sz i n : Nat} {cs : List AV} {ro : Bool} (e : h[i]? = some (.cells cs ro)) (hl : n * sz = cs.length) : SlAt h sz (some ⟨i, 0, n, n, none⟩) cs :=
  SlAt.lit (by rw [cellsAt_of e, if_pos (by omega)]; simp [hl]) (Nat.le_refl _)

theorem SlAt.sliceAt {h : AH} {sz : Nat} {s : Sl} {cs : List AV} (a : SlAt h sz (some s) cs) (_hz : sz ≠ 0) : h.sliceAt s sz = some cs := by
  unfold AH.sliceAt
  by_cases h0 : s.len = 0
  · have := a.2.1
    rw [h0, Nat.zero_mul] at this
    rw [if_pos h0, List.length_eq_zero_iff.1 this.symm]
  · rw [if_neg h0]
    refine a.2.2 fun hc => ?_
    have := a.2.1
    rw [hc, List.length_nil] at this
    rcases Nat.mul_eq_zero.1 this with h | h
    · exact h0 h
    · exact _hz h

theorem aNews_at {h : AH} {sz : Nat} {x : Option Sl} {cs : List AV} (a : SlAt h sz x cs) (hz : sz ≠ 0) (K : List AV → Nat → Prop) : aNews h sz (.slice x) K = K cs (lenO x) := by
  cases x with
  | none => cases a; rfl
  | some s =>
    show ob (h.sliceAt s sz) (fun cs => K cs s.len) = _
    rw [a.sliceAt hz]; rfl
theorem aNews_str {h : AH} {l : List UInt8} (K : List AV → Nat → Prop) : aNews h 1 (.str l) K = K (bys l) l.length := rfl

/-! ## A slice of one's own: nobody else stands on its block -/

/-- A slice that is the only one on its block. -/
def Own (h : AH) (sz : Nat) : Option Sl → List AV → Prop
  | none, cs => cs = []
  | some s, cs => (s.slack = none ∨ s.slack = some sz) ∧ s.len ≤ s.cap ∧ s.len * sz = cs.length ∧ s.off = 0 ∧
      ∃ rest, h[s.id]? = some (.cells (cs ++ rest) false) ∧ (cs ++ rest).length = s.cap * sz

def ids : Option Sl → List Nat
  | none => []
  | some s => [s.id]

theorem Own.slAt {h : AH} {sz : Nat} {x : Option Sl} {cs : List AV} (a : Own h sz x cs) : SlAt h sz x cs := by
  cases x with
  | none => exact a
  | some s =>
    obtain ⟨h1, h2, h3, h4, rest, h5, h6⟩ := a
    refine ⟨⟨h2, ?_⟩, h3, fun _ => ?_⟩
    · rcases h1 with h1 | h1
      · exact .inl h1
      · exact .inr (.inl h1)
    · rw [cellsAt_of h5, h4, if_pos (by simp; omega)]
      simp [h3]
theorem Own.fr {h h' : AH} {sz : Nat} {x : Option Sl} {cs : List AV} (a : Own h sz x cs) {S : List Nat} (f : Fr S h h') (hs : ∀ i ∈ ids x, i ∉ S) : Own h' sz x cs := by
  cases x with
  | none => exact a
  | some s =>
    obtain ⟨h1, h2, h3, h4, rest, h5, h6⟩ := a
    exact ⟨h1, h2, h3, h4, rest, f.keep h5 (hs _ (by simp [ids])), h6⟩
theorem Own.kept {h h' : AH} {sz : Nat} {x : Option Sl} {cs : List AV} (a : Own h sz x cs) (f : Fr [] h h') : Own h' sz x cs := a.fr f (by simp)
theorem Own.lt {h : AH} {sz : Nat} {x : Option Sl} {cs : List AV} (a : Own h sz x cs) : ∀ i ∈ ids x, i < h.length := by
  cases x with
  | none => simp [ids]
  | some s =>
    obtain ⟨_, _, _, _, rest, h5, _⟩ := a
    simp [ids]; exact (List.getElem?_eq_some_iff.1 h5).1
theorem Own.nil {h : AH} {sz : Nat} : Own h sz none [] := rfl
theorem Own.made {h : AH} {sz i n : Nat} {cs : List AV} (e : h[i]? = some (.cells cs false)) (hl : n * sz = cs.length) : Own h sz (some ⟨i, 0, n, n, none⟩) cs :=
  ⟨.inl rfl, Nat.le_refl _, hl, rfl, [], by simpa using e, by simp [hl]⟩

/-- 'append' to a slice of one's own. -/
theorem aAppend_own {h : AH} {sz bytes : Nat} {x : Option Sl} {cs new : List AV} {n : Nat} {K : Option Sl → AH → Prop} (a : Own h sz x cs) (hn : new.length = n * sz) (hb : (lenO x + n) * bytes ≤ 70368744177664)
    (hk : ∀ x' h', Own h' sz x' (cs ++ new) → Fr (ids x) h h' → (∀ i ∈ ids x', i ∈ ids x ∨ h.length ≤ i) → K x' h') : aAppend h sz bytes x new n K := by
  cases x with
  | none =>
    cases a
    unfold aAppend
    by_cases h0 : n = 0
    · subst h0
      simp at hn
      subst hn
      rw [if_pos rfl]
      exact hk _ _ .nil (.refl _ _) (by simp [ids])
    · simp only [if_neg h0]
      rw [if_pos (show n * bytes ≤ 70368744177664 by simpa [lenO] using hb)]
      refine hk _ _ ⟨.inr rfl, Nat.le_refl _, by simp [hn], rfl, [], by simp, by simp [hn]⟩ (.push _ _ _) (by simp [ids])
  | some s =>
    obtain ⟨h1, h2, h3, h4, rest, h5, h6⟩ := a
    obtain ⟨id, off, len, cap, slack⟩ := s
    simp only at h1 h2 h3 h4 h5 h6
    subst h4
    have hid := (List.getElem?_eq_some_iff.1 h5).1
    simp only [List.length_append] at h6
    unfold aAppend
    simp only
    by_cases hc : len + n ≤ cap
    · rw [if_pos hc]
      have hr : new.length ≤ rest.length := by
        have h7 : (len + n) * sz ≤ cap * sz := Nat.mul_le_mul_right _ hc
        rw [Nat.add_mul] at h7
        omega
      by_cases h0 : n = 0
      · subst h0
        simp at hn
        subst hn
        simp only [if_pos, ob_some]
        exact hk _ _ ⟨h1, by simpa using h2, by simp [h3], rfl, rest, by simpa using h5, by simp [h6]⟩ (.refl _ _) (by simp [ids])
      · rw [if_neg h0, puts_of h5, if_pos (by simp; omega)]
        simp only [ob_some, Nat.zero_add, h3]
        have e1 : (cs ++ rest).take cs.length = cs := by simp
        have e2 : (cs ++ rest).drop (cs.length + new.length) = rest.drop new.length := by rw [List.drop_append]; simp
        rw [e1, e2]
        refine hk _ _ ⟨h1, by simpa using hc, by simp [Nat.add_mul, h3, hn], rfl, rest.drop new.length, by simp [hid], ?_⟩ ((Fr.refl _ _).set _ (.inl (by simp [ids]))) (by simp [ids])
        simp only [List.length_append, List.length_drop]
        omega
    · rw [if_neg hc, if_pos (show (len + n) * bytes ≤ 70368744177664 by simpa [lenO] using hb)]
      have hat : h.sliceAt ⟨id, 0, len, cap, slack⟩ sz = some cs := by
        unfold AH.sliceAt
        simp only
        by_cases hl : len = 0
        · rw [if_pos hl]
          subst hl
          simp at h3
          rw [List.length_eq_zero_iff.1 h3.symm]
        · rw [if_neg hl, cellsAt_of h5, if_pos (by simp; omega)]
          simp [h3]
      rw [hat]
      simp only [ob_some]
      rcases h1 with h1 | h1
      · subst h1
        simp only
        exact hk _ _ ⟨.inr rfl, Nat.le_refl _, by simp [Nat.add_mul, h3, hn], rfl, [], by simp, by simp [Nat.add_mul, h3, hn]⟩ (.push _ _ _) (by simp [ids])
      · subst h1
        simp only [if_pos, h5]
        exact hk _ _ ⟨.inr rfl, Nat.le_refl _, by simp [Nat.add_mul, h3, hn], rfl, [], by simp, by simp [Nat.add_mul, h3, hn]⟩ (((Fr.refl _ _).set _ (.inl (by simp [ids]))).add _) (by simp [ids])

/-- What was changed is younger than a heap. -/
theorem Fr.tr {S : List Nat} {h h' h'' : AH} (a : Fr [] h h') (b : Fr S h' h'') (hs : ∀ i ∈ S, h.length ≤ i) : Fr [] h h'' :=
  (a.nil.trans b).fresh hs

theorem Fr.tr' {S T : List Nat} {h h' h'' : AH} (a : Fr S h h') (b : Fr T h' h'') (hs : ∀ i ∈ T, i ∈ S ∨ h.length ≤ i) : Fr S h h'' :=
  ⟨Nat.le_trans a.len b.len, fun i hi hn => by
    rw [b.get i (by have := a.len; omega) (fun hm => (hs i hm).elim hn (by omega)), a.get i hi hn]⟩

/-- 'append(x, y...)', x one's own. -/
theorem append_own {h : AH} {sz bytes : Nat} {x : Option Sl} {y : AV} {cs new : List AV} {n : Nat} {K : Option Sl → AH → Prop} (a : Own h sz x cs) (hy : ∀ K' : List AV → Nat → Prop, aNews h sz y K' = K' new n) (hn : new.length = n * sz)
    (hsc : new.all AV.scal = true) (hb : (lenO x + n) * bytes ≤ 70368744177664)
    (hk : ∀ x' h', Own h' sz x' (cs ++ new) → Fr (ids x) h h' → (∀ i ∈ ids x', i ∈ ids x ∨ h.length ≤ i) → K x' h') :
    aNews h sz y fun l m => guardR (l.all AV.scal && true && true) <| aAppend h sz bytes x l m K := by
  rw [hy, hsc]
  exact aAppend_own a hn hb hk

end Go.Abs
