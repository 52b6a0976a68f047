/- How the abstract machine's values and heap stand to a world: the relation, and how it goes on from step to step. -/
import Derived.Test.YtdpecfeofcibhaaA1
import Derived.Below
namespace Go.Abs

/-- Two lists, one by one. -/
def All2 {α β : Type} (R : α → β → Prop) : List α → List β → Prop
  | [], [] => True
  | a :: as, b :: bs => R a b ∧ All2 R as bs
  | _, _ => False

section
variable {α β γ : Type} {R : α → β → Prop}
theorem All2.length : ∀ {as : List α} {bs : List β}, All2 R as bs → as.length = bs.length
  | [], [], _ => rfl
  | _ :: _, _ :: _, h => by simp [All2.length h.2]
  | [], _ :: _, h => h.elim
  | _ :: _, [], h => h.elim
theorem All2.get : ∀ {as : List α} {bs : List β}, All2 R as bs → ∀ (i : Nat) a, as[i]? = some a → ∃ b, bs[i]? = some b ∧ R a b
  | [], [], _, i, a, h => by simp at h
  | a :: as, b :: bs, h, 0, x, hx => by simp at hx; subst hx; exact ⟨b, rfl, h.1⟩
  | a :: as, b :: bs, h, i + 1, x, hx => by simpa using All2.get h.2 i x (by simpa using hx)
  | [], _ :: _, h, _, _, _ => h.elim
  | _ :: _, [], h, _, _, _ => h.elim
theorem All2.of_get : ∀ {as : List α} {bs : List β}, as.length = bs.length → (∀ (i : Nat) a b, as[i]? = some a → bs[i]? = some b → R a b) → All2 R as bs
  | [], [], _, _ => trivial
  | a :: as, b :: bs, h, hg => ⟨hg 0 a b rfl rfl, All2.of_get (by simpa using h) fun i x y hx hy => hg (i + 1) x y (by simpa using hx) (by simpa using hy)⟩
  | [], _ :: _, h, _ => by simp at h
  | _ :: _, [], h, _ => by simp at h
theorem All2.mono {R' : α → β → Prop} (hr : ∀ a b, R a b → R' a b) : ∀ {as : List α} {bs : List β}, All2 R as bs → All2 R' as bs
  | [], [], _ => trivial
  | _ :: _, _ :: _, h => ⟨hr _ _ h.1, All2.mono hr h.2⟩
  | [], _ :: _, h => h.elim
  | _ :: _, [], h => h.elim
theorem All2.append : ∀ {as : List α} {bs : List β} {cs : List α} {ds : List β}, All2 R as bs → All2 R cs ds → All2 R (as ++ cs) (bs ++ ds)
  | [], [], _, _, _, h => h
  | _ :: _, _ :: _, _, _, h, h' => ⟨h.1, All2.append h.2 h'⟩
  | [], _ :: _, _, _, h, _ => h.elim
  | _ :: _, [], _, _, h, _ => h.elim
theorem All2.take : ∀ (n : Nat) {as : List α} {bs : List β}, All2 R as bs → All2 R (as.take n) (bs.take n)
  | 0, _, _, _ => by simp [All2]
  | n + 1, [], [], _ => by simp [All2]
  | n + 1, _ :: _, _ :: _, h => ⟨h.1, All2.take n h.2⟩
  | _ + 1, [], _ :: _, h => h.elim
  | _ + 1, _ :: _, [], h => h.elim
theorem All2.drop : ∀ (n : Nat) {as : List α} {bs : List β}, All2 R as bs → All2 R (as.drop n) (bs.drop n)
  | 0, _, _, h => by simpa using h
  | n + 1, [], [], _ => by simp [All2]
  | n + 1, _ :: _, _ :: _, h => All2.drop n h.2
  | _ + 1, [], _ :: _, h => h.elim
  | _ + 1, _ :: _, [], h => h.elim
theorem All2.set : ∀ (i : Nat) {as : List α} {bs : List β} {a : α} {b : β}, All2 R as bs → R a b → All2 R (as.set i a) (bs.set i b)
  | _, [], [], _, _, _, _ => by simp [All2]
  | 0, _ :: _, _ :: _, _, _, h, hr => ⟨hr, h.2⟩
  | i + 1, _ :: _, _ :: _, _, _, h, hr => ⟨h.1, All2.set i h.2 hr⟩
  | _, [], _ :: _, _, _, h, _ => h.elim
  | _, _ :: _, [], _, _, h, _ => h.elim
theorem All2.map {R' : α → γ → Prop} (f : β → γ) (hf : ∀ a b, R a b → R' a (f b)) : ∀ {as : List α} {bs : List β}, All2 R as bs → All2 R' as (bs.map f)
  | [], [], _ => trivial
  | _ :: _, _ :: _, h => ⟨hf _ _ h.1, All2.map f hf h.2⟩
  | [], _ :: _, h => h.elim
  | _ :: _, [], h => h.elim
theorem All2.maps {δ : Type} (f : δ → α) (g : δ → β) (l : List δ) (h : ∀ x ∈ l, R (f x) (g x)) : All2 R (l.map f) (l.map g) := by
  induction l with
  | nil => trivial
  | cons x l ih => exact ⟨h x (by simp), ih fun y hy => h y (by simp [hy])⟩
theorem All2.snoc {as : List α} {bs : List β} {a : α} {b : β} (h : All2 R as bs) (hr : R a b) : All2 R (as ++ [a]) (bs ++ [b]) := h.append ⟨hr, trivial⟩
theorem All2.eraseIdx : ∀ (i : Nat) {as : List α} {bs : List β}, All2 R as bs → All2 R (as.eraseIdx i) (bs.eraseIdx i)
  | _, [], [], _ => by simp [All2]
  | 0, _ :: _, _ :: _, h => h.2
  | i + 1, _ :: _, _ :: _, h => ⟨h.1, All2.eraseIdx i h.2⟩
  | _, [], _ :: _, h => h.elim
  | _, _ :: _, [], h => h.elim
end

/-- What has become of an abstract block: it lives in a block of the world, from a place on, of a size; it is dead; it is not yet born. -/
inductive Ent where
  | live (b base dsz : Nat)
  | dead
  | unborn

abbrev Sig := List Ent

def ARel (σ : Sig) (i o : Nat) (a : Addr) : Prop :=
  match σ[i]? with
  | some (.live b base _) => a = ⟨b, base + o, none⟩
  | some .dead => True
  | _ => False

structure SlRel (σ : Sig) (s : Sl) (a : Addr) (len cap : Nat) : Prop where
  len : len = s.len
  le : s.len ≤ s.cap
  capLe : s.cap ≤ cap
  exact : s.slack = none → cap = s.cap
  none0 : s.slack = some 0 → s.cap = 0
  at_ : s.slack ≠ some 0 → ARel σ s.id s.off a
  room : ∀ sz, s.slack = some sz → sz ≠ 0 → ∀ b base dsz, σ[s.id]? = some (.live b base dsz) → base + s.off + cap * sz ≤ dsz

def MRel (σ : Sig) (r b : Nat) : Prop :=
  match σ[r]? with
  | some (.live b' _ _) => b = b'
  | some .dead => True
  | _ => False

inductive VRel (σ : Sig) : AV → Value → Prop where
  | bot (v) : VRel σ .bot v
  | bool (b) : VRel σ (.bool b) (.bool b)
  | int (k n) : VRel σ (.int k n) (.int k n)
  | str (l s) : s.data.toList = l → VRel σ (.str l) (.string s)
  | ptr0 : VRel σ (.ptr none) (.pointer none)
  | ptr (i o a) : ARel σ i o a → VRel σ (.ptr (some (i, o))) (.pointer (some a))
  | slice0 : VRel σ (.slice none) (.slice none 0 0)
  | slice (s a len cap) : SlRel σ s a len cap → VRel σ (.slice (some s)) (.slice (some a) len cap)
  | map0 : VRel σ (.map none) (.map none)
  | map (r b) : MRel σ r b → VRel σ (.map (some r)) (.map (some b))
  | fn (f as cs bs ds) : as.length = bs.size → (∀ (i : Nat) a b, as[i]? = some a → bs[i]? = some b → VRel σ a b) →
      cs.length = ds.size → (∀ (i : Nat) a b, cs[i]? = some a → ds[i]? = some b → VRel σ a b) → VRel σ (.fn f as cs) (.func (.func f) bs ds)
  | nilFn : VRel σ .nilFn .nilFunc
  | agg (as bs) : as.length = bs.size → (∀ (i : Nat) a b, as[i]? = some a → bs[i]? = some b → VRel σ a b) → VRel σ (.agg as) (.agg bs)
  | tup (as bs) : as.length = bs.size → (∀ (i : Nat) a b, as[i]? = some a → bs[i]? = some b → VRel σ a b) → VRel σ (.tup as) (.tuple bs)

/-- Lists of values, one by one. -/
abbrev VRels (σ : Sig) (as : List AV) (bs : List Value) : Prop := All2 (VRel σ) as bs

theorem VRels.of {σ : Sig} {as : List AV} {bs : Array Value} (hl : as.length = bs.size) (h : ∀ (i : Nat) a b, as[i]? = some a → bs[i]? = some b → VRel σ a b) : VRels σ as bs.toList :=
  All2.of_get (by simpa using hl) fun i a b ha hb => h i a b ha (by simpa using hb)

theorem VRels.get_arr {σ : Sig} {as : List AV} {bs : Array Value} (h : VRels σ as bs.toList) (i : Nat) (a : AV) (b : Value) (ha : as[i]? = some a) (hb : bs[i]? = some b) : VRel σ a b := by
  obtain ⟨b', hb', hr⟩ := h.get i a ha
  rw [Array.getElem?_toList, hb] at hb'
  cases hb'; exact hr

theorem VRels.len_arr {σ : Sig} {as : List AV} {bs : Array Value} (h : VRels σ as bs.toList) : as.length = bs.size := by simpa using h.length

theorem VRel.agg_iff {σ : Sig} {as : List AV} {v : Value} : VRel σ (.agg as) v ↔ ∃ bs, v = .agg bs ∧ VRels σ as bs.toList := by
  constructor
  · intro h; cases h with
    | agg _ bs hl hg => exact ⟨bs, rfl, .of hl hg⟩
  · rintro ⟨bs, rfl, h⟩; exact .agg _ _ h.len_arr h.get_arr

theorem VRel.tup_iff {σ : Sig} {as : List AV} {v : Value} : VRel σ (.tup as) v ↔ ∃ bs, v = .tuple bs ∧ VRels σ as bs.toList := by
  constructor
  · intro h; cases h with
    | tup _ bs hl hg => exact ⟨bs, rfl, .of hl hg⟩
  · rintro ⟨bs, rfl, h⟩; exact .tup _ _ h.len_arr h.get_arr

theorem VRel.fn_iff {σ : Sig} {f : FuncId} {as cs : List AV} {v : Value} : VRel σ (.fn f as cs) v ↔ ∃ bs ds, v = .func (.func f) bs ds ∧ VRels σ as bs.toList ∧ VRels σ cs ds.toList := by
  constructor
  · intro h; cases h with
    | fn _ _ _ bs ds hl hg hl' hg' => exact ⟨bs, ds, rfl, .of hl hg, .of hl' hg'⟩
  · rintro ⟨bs, ds, rfl, h, h'⟩; exact .fn _ _ _ _ _ h.len_arr h.get_arr h'.len_arr h'.get_arr

/-! ## The signature grows -/

def EntLe : Ent → Ent → Prop
  | .live b base d, .live b' base' d' => b = b' ∧ base = base' ∧ d = d'
  | .live .., .dead => True
  | .dead, .dead => True
  | .unborn, _ => True
  | _, _ => False

structure SigLe (σ σ' : Sig) : Prop where
  ent : ∀ (i : Nat) e, σ[i]? = some e → ∃ e', σ'[i]? = some e' ∧ EntLe e e'

theorem EntLe.refl (e : Ent) : EntLe e e := by cases e <;> simp [EntLe]
theorem EntLe.trans {a b c : Ent} (h : EntLe a b) (h' : EntLe b c) : EntLe a c := by
  cases a <;> cases b <;> cases c <;> simp_all [EntLe]
theorem SigLe.refl (σ : Sig) : SigLe σ σ := ⟨fun _ e h => ⟨e, h, .refl e⟩⟩
theorem SigLe.trans {a b c : Sig} (h : SigLe a b) (h' : SigLe b c) : SigLe a c :=
  ⟨fun i e he => let ⟨e', h1, h2⟩ := h.ent i e he; let ⟨e'', h3, h4⟩ := h'.ent i e' h1; ⟨e'', h3, h2.trans h4⟩⟩

theorem SigLe.append (σ τ : Sig) : SigLe σ (σ ++ τ) :=
  ⟨fun i e h => ⟨e, by
    obtain ⟨hlt, _⟩ := List.getElem?_eq_some_iff.1 h
    rw [List.getElem?_append_left hlt]; exact h, .refl e⟩⟩

theorem SigLe.set {σ : Sig} {i : Nat} {e e' : Ent} (h : σ[i]? = some e) (hl : EntLe e e') : SigLe σ (σ.set i e') :=
  ⟨fun j f hf => by
    by_cases hj : i = j
    · subst hj
      rw [h] at hf; cases hf
      obtain ⟨hlt, _⟩ := List.getElem?_eq_some_iff.1 h
      exact ⟨e', by simp [hlt], hl⟩
    · exact ⟨f, by simp [List.getElem?_set_ne hj, hf], .refl f⟩⟩

theorem ARel.mono {σ σ' : Sig} (hl : SigLe σ σ') {i o : Nat} {a : Addr} (h : ARel σ i o a) : ARel σ' i o a := by
  unfold ARel at *
  cases he : σ[i]? with
  | none => simp [he] at h
  | some e =>
    obtain ⟨e', he', hle⟩ := hl.ent i e he
    rw [he] at h; rw [he']
    cases e <;> cases e' <;> simp_all [EntLe]

theorem MRel.mono {σ σ' : Sig} (hl : SigLe σ σ') {i b : Nat} (h : MRel σ i b) : MRel σ' i b := by
  unfold MRel at *
  cases he : σ[i]? with
  | none => simp [he] at h
  | some e =>
    obtain ⟨e', he', hle⟩ := hl.ent i e he
    rw [he] at h; rw [he']
    cases e <;> cases e' <;> simp_all [EntLe]

theorem SlRel.mono {σ σ' : Sig} (hl : SigLe σ σ') {s : Sl} {a : Addr} {len cap : Nat} (h : SlRel σ s a len cap) : SlRel σ' s a len cap := by
  refine ⟨h.len, h.le, h.capLe, h.exact, h.none0, fun hs => (h.at_ hs).mono hl, fun sz hs h0 b base dsz hb => ?_⟩
  refine h.room sz hs h0 b base dsz ?_
  have h1 := h.at_ (by rw [hs]; simpa using h0)
  unfold ARel at h1
  cases he : σ[s.id]? with
  | none => simp [he] at h1
  | some e =>
    obtain ⟨e', he', hle⟩ := hl.ent _ e he
    rw [hb] at he'; cases he'
    rw [he] at h1
    cases e <;> simp_all [EntLe]

theorem VRel.mono {σ σ' : Sig} (hl : SigLe σ σ') {a : AV} {v : Value} (h : VRel σ a v) : VRel σ' a v := by
  induction h with
  | bot v => exact .bot v
  | bool b => exact .bool b
  | int k n => exact .int k n
  | str l s h => exact .str l s h
  | ptr0 => exact .ptr0
  | ptr i o a h => exact .ptr i o a (h.mono hl)
  | slice0 => exact .slice0
  | slice s a len cap h => exact .slice _ _ _ _ (h.mono hl)
  | map0 => exact .map0
  | map r b h => exact .map _ _ (h.mono hl)
  | fn f as cs bs ds h1 _ h2 _ ih ih' => exact .fn _ _ _ _ _ h1 ih h2 ih'
  | nilFn => exact .nilFn
  | agg as bs h _ ih => exact .agg _ _ h ih
  | tup as bs h _ ih => exact .tup _ _ h ih

theorem VRels.mono {σ σ' : Sig} (hl : SigLe σ σ') {as : List AV} {vs : List Value} (h : VRels σ as vs) : VRels σ' as vs := All2.mono (fun _ _ h => h.mono hl) h

/-! ## The heap -/

def ERel (σ : Sig) (e : MEnt) (e' : MapEntry) : Prop := VRel σ e.key e'.key ∧ VRel σ e.val e'.val ∧ e.born = e'.born

def OMRel (σ : Sig) : Option Nat → Option Nat → Prop
  | none, none => True
  | some r, some b => MRel σ r b
  | _, _ => False

def BRel (σ : Sig) (w : World) : Ent → ABlk → Prop
  | .dead, .dead => True
  | .unborn, .unborn => True
  | .live b base dsz, .cells c ro => ∃ d T fr, w.heap[b]? = some (.cells d T fr) ∧ d.size = dsz ∧ base + c.length ≤ dsz ∧
      (ro = false → ∀ k, k < dsz → ¬ (fr.1 ≤ k ∧ k < fr.2)) ∧ VRels σ c ((d.toList.drop base).take c.length)
  | .live b base _, .map es ck => base = 0 ∧ ∃ es', w.heap[b]? = some (.map es' ck) ∧ All2 (ERel σ) es es'.toList
  | .live b base _, .iter m since seen st => base = 0 ∧ ∃ m', w.heap[b]? = some (.mapIter m' since seen.toArray st) ∧ OMRel σ m m'
  | _, _ => False

structure HRel (σ : Sig) (h : AH) (w : World) : Prop where
  len : σ.length = h.length
  ent : ∀ (i : Nat) e B, σ[i]? = some e → h[i]? = some B → BRel σ w e B
  inj : ∀ (i j : Nat) b base base' d d', σ[i]? = some (.live b base d) → σ[j]? = some (.live b base' d') → i = j

def ABlk.isRo : ABlk → Bool
  | .cells _ true => true
  | _ => false

def Owns (σ : Sig) (h : AH) (b : Nat) : Prop := ∃ (i : Nat) (base dsz : Nat) (B : ABlk), σ[i]? = some (.live b base dsz) ∧ h[i]? = some B ∧ B.isRo = false

structure Step (σ : Sig) (h : AH) (w : World) (σ' : Sig) (h' : AH) (w' : World) : Prop where
  le : SigLe σ σ'
  rel : HRel σ' h' w'
  os : w'.os = w.os
  tape : w'.tape = w.tape
  output : w'.output = w.output
  size : w.heap.size ≤ w'.heap.size
  keep : ∀ b, b < w.heap.size → ¬ Owns σ h b → w'.heap[b]? = w.heap[b]? ∧ ¬ Owns σ' h' b

theorem Step.refl {σ : Sig} {h : AH} {w : World} (H : HRel σ h w) : Step σ h w σ h w :=
  ⟨.refl σ, H, rfl, rfl, rfl, Nat.le_refl _, fun _ _ hn => ⟨rfl, hn⟩⟩

theorem Step.trans {σ σ' σ'' : Sig} {h h' h'' : AH} {w w' w'' : World} (a : Step σ h w σ' h' w') (b : Step σ' h' w' σ'' h'' w'') : Step σ h w σ'' h'' w'' :=
  ⟨a.le.trans b.le, b.rel, b.os.trans a.os, b.tape.trans a.tape, b.output.trans a.output, Nat.le_trans a.size b.size, fun k hk hn => by
    obtain ⟨h1, h2⟩ := a.keep k hk hn
    obtain ⟨h3, h4⟩ := b.keep k (Nat.lt_of_lt_of_le hk a.size) h2
    exact ⟨h3.trans h1, h4⟩⟩

theorem ERel.mono {σ σ' : Sig} (hl : SigLe σ σ') {e : MEnt} {e' : MapEntry} (h : ERel σ e e') : ERel σ' e e' := ⟨h.1.mono hl, h.2.1.mono hl, h.2.2⟩

theorem OMRel.mono {σ σ' : Sig} (hl : SigLe σ σ') {r b : Option Nat} (h : OMRel σ r b) : OMRel σ' r b := by
  cases r <;> cases b <;> simp_all [OMRel]; exact h.mono hl

theorem BRel.mono {σ σ' : Sig} (hl : SigLe σ σ') {w : World} {e : Ent} {B : ABlk} (h : BRel σ w e B) : BRel σ' w e B := by
  cases e <;> cases B <;> simp only [BRel] at h ⊢
  · obtain ⟨d, T, fr, h1, h2, h3, h4, h5⟩ := h
    exact ⟨d, T, fr, h1, h2, h3, h4, h5.mono hl⟩
  · obtain ⟨h0, es', h1, h2⟩ := h
    exact ⟨h0, es', h1, h2.mono fun _ _ h => h.mono hl⟩
  · obtain ⟨h0, m', h1, h2⟩ := h
    exact ⟨h0, m', h1, h2.mono hl⟩

/-- A block's relation asks of the world that block alone. -/
theorem BRel.congr {σ : Sig} {w w' : World} {e : Ent} {B : ABlk} (hw : ∀ b base d, e = .live b base d → w'.heap[b]? = w.heap[b]?) (h : BRel σ w e B) : BRel σ w' e B := by
  cases e with
  | live b base d =>
    have := hw b base d rfl
    cases B <;> simp only [BRel, this] at h ⊢ <;> exact h
  | dead => cases B <;> simp only [BRel] at h ⊢
  | unborn => cases B <;> simp only [BRel] at h ⊢

theorem BRel.block_lt {σ : Sig} {w : World} {b base d : Nat} {B : ABlk} (h : BRel σ w (.live b base d) B) : b < w.heap.size := by
  have key : ∃ o, w.heap[b]? = some o := by
    cases B <;> simp only [BRel] at h
    · obtain ⟨d, T, fr, h1, _⟩ := h; exact ⟨_, h1⟩
    · obtain ⟨_, es', h1, _⟩ := h; exact ⟨_, h1⟩
    · obtain ⟨_, m', h1, _⟩ := h; exact ⟨_, h1⟩
  obtain ⟨o, ho⟩ := key
  exact (Array.getElem?_eq_some_iff.1 ho).1

theorem HRel.lookup {σ : Sig} {h : AH} {w : World} (H : HRel σ h w) {i : Nat} {B : ABlk} (hi : h[i]? = some B) : ∃ e, σ[i]? = some e ∧ BRel σ w e B := by
  obtain ⟨hlt, _⟩ := List.getElem?_eq_some_iff.1 hi
  have : i < σ.length := by rw [H.len]; exact hlt
  exact ⟨σ[i], by simp [this], H.ent i _ B (by simp [this]) hi⟩

theorem HRel.lookup_sig {σ : Sig} {h : AH} {w : World} (H : HRel σ h w) {i : Nat} {e : Ent} (hi : σ[i]? = some e) : ∃ B, h[i]? = some B ∧ BRel σ w e B := by
  obtain ⟨hlt, _⟩ := List.getElem?_eq_some_iff.1 hi
  have : i < h.length := by rw [← H.len]; exact hlt
  exact ⟨h[i], by simp [this], H.ent i e _ hi (by simp [this])⟩

theorem HRel.live_lt {σ : Sig} {h : AH} {w : World} (H : HRel σ h w) {i b base d : Nat} (hi : σ[i]? = some (.live b base d)) : b < w.heap.size := by
  obtain ⟨B, _, hB⟩ := H.lookup_sig hi
  exact hB.block_lt

/-- Another world with the same heap. -/
theorem HRel.congr {σ : Sig} {h : AH} {w w' : World} (hw : w'.heap = w.heap) (H : HRel σ h w) : HRel σ h w' :=
  ⟨H.len, fun i e B he hB => (H.ent i e B he hB).congr fun b _ _ _ => by rw [hw], H.inj⟩

/-- A draw. -/
theorem Step.drew {σ : Sig} {h : AH} {w w' : World} (H : HRel σ h w) (h1 : w'.heap = w.heap) (h2 : w'.os = w.os) (h3 : w'.tape = w.tape) (h4 : w'.output = w.output) : Step σ h w σ h w' :=
  ⟨.refl σ, H.congr h1, h2, h3, h4, by rw [h1]; exact Nat.le_refl _, fun b _ hn => ⟨by rw [h1], hn⟩⟩

/-- A block is changed in place. -/
theorem Step.upd {σ : Sig} {h : AH} {w w' : World} (H : HRel σ h w) {i b base dsz : Nat} {B B' : ABlk} (hi : σ[i]? = some (.live b base dsz)) (hB0 : h[i]? = some B) (hro : B.isRo = false)
    (h2 : w'.os = w.os) (h3 : w'.tape = w.tape) (h4 : w'.output = w.output) (hs : w.heap.size ≤ w'.heap.size)
    (hother : ∀ k, k < w.heap.size → k ≠ b → w'.heap[k]? = w.heap[k]?) (hB : BRel σ w' (.live b base dsz) B') : Step σ h w σ (h.set i B') w' := by
  have hlt : i < h.length := (List.getElem?_eq_some_iff.1 hB0).1
  refine ⟨.refl σ, ⟨by simpa using H.len, fun j e C he hC => ?_, H.inj⟩, h2, h3, h4, hs, fun k hk hn => ⟨hother k hk fun hkb => hn ⟨i, base, dsz, B, by rw [hkb]; exact hi, hB0, hro⟩, ?_⟩⟩
  · by_cases hj : i = j
    · subst hj
      rw [hi] at he; cases he
      simp [hlt] at hC; subst hC; exact hB
    · rw [List.getElem?_set_ne hj] at hC
      refine (H.ent j e C he hC).congr fun b' base' d' hl => ?_
      subst hl
      refine hother b' (H.live_lt he) fun hb => hj (H.inj i j b base base' dsz d' hi (by rw [← hb]; exact he))
  · rintro ⟨j, bs, ds, C, hj1, hj2, hj3⟩
    by_cases hj : i = j
    · subst hj
      exact hn ⟨i, bs, ds, B, hj1, hB0, hro⟩
    · rw [List.getElem?_set_ne hj] at hj2
      exact hn ⟨j, bs, ds, C, hj1, hj2, hj3⟩

/-- A new block. -/
theorem Step.new {σ : Sig} {h : AH} {w w' : World} (H : HRel σ h w) {base dsz : Nat} {B : ABlk}
    (h2 : w'.os = w.os) (h3 : w'.tape = w.tape) (h4 : w'.output = w.output) (hs : w.heap.size < w'.heap.size)
    (hother : ∀ k, k < w.heap.size → w'.heap[k]? = w.heap[k]?) (hB : BRel (σ ++ [.live w.heap.size base dsz]) w' (.live w.heap.size base dsz) B) :
    Step σ h w (σ ++ [.live w.heap.size base dsz]) (h ++ [B]) w' := by
  have hle := SigLe.append σ [.live w.heap.size base dsz]
  have hget : ∀ (i : Nat) e, (σ ++ [Ent.live w.heap.size base dsz])[i]? = some e → (i < σ.length ∧ σ[i]? = some e) ∨ (i = σ.length ∧ e = .live w.heap.size base dsz) := by
    intro i e he
    rcases Nat.lt_trichotomy i σ.length with hl | hl | hl
    · rw [List.getElem?_append_left hl] at he; exact .inl ⟨hl, he⟩
    · subst hl; simp at he; exact .inr ⟨rfl, he.symm⟩
    · rw [List.getElem?_append_right (by omega)] at he
      have : i - σ.length ≠ 0 := by omega
      simp [this] at he
  refine ⟨hle, ⟨by simp [H.len], fun i e C he hC => ?_, fun i j b ba ba' d d' hi hj => ?_⟩, h2, h3, h4, Nat.le_of_lt hs, fun k hk hn => ⟨hother k hk, ?_⟩⟩
  · have hx := hget i e he; clear he; rcases hx with ⟨hl, he⟩ | ⟨hl, he⟩
    · rw [List.getElem?_append_left (by rw [← H.len]; exact hl)] at hC
      refine ((H.ent i e C he hC).congr fun b base d hb => ?_).mono hle
      subst hb; exact hother b (H.live_lt he)
    · subst hl; rw [H.len] at hC; simp at hC; subst hC; subst he; exact hB
  · rcases hget i _ hi with ⟨hl, he⟩ | ⟨hl, he⟩ <;> rcases hget j _ hj with ⟨hl', he'⟩ | ⟨hl', he'⟩
    · exact H.inj i j b ba ba' d d' he he'
    · cases he'; have := H.live_lt he; omega
    · cases he; have := H.live_lt he'; omega
    · omega
  · rintro ⟨j, bs, ds, C, hj1, hj2, hj3⟩
    rcases hget j _ hj1 with ⟨hl, he⟩ | ⟨hl, he⟩
    · rw [List.getElem?_append_left (by rw [← H.len]; exact hl)] at hj2
      exact hn ⟨j, bs, ds, C, he, hj2, hj3⟩
    · cases he; omega

/-- A number that was held is born. -/
theorem Step.birth {σ : Sig} {h : AH} {w w' : World} (H : HRel σ h w) {i base dsz : Nat} {B : ABlk} (hi : h[i]? = some .unborn)
    (h2 : w'.os = w.os) (h3 : w'.tape = w.tape) (h4 : w'.output = w.output) (hs : w.heap.size < w'.heap.size)
    (hother : ∀ k, k < w.heap.size → w'.heap[k]? = w.heap[k]?) (hB : BRel (σ.set i (.live w.heap.size base dsz)) w' (.live w.heap.size base dsz) B) :
    Step σ h w (σ.set i (.live w.heap.size base dsz)) (h.set i B) w' := by
  obtain ⟨e0, he0, hb0⟩ := H.lookup hi
  have hun : e0 = .unborn := by cases e0 <;> simp_all [BRel]
  subst hun
  have hlt : i < σ.length := (List.getElem?_eq_some_iff.1 he0).1
  have hlt' : i < h.length := (List.getElem?_eq_some_iff.1 hi).1
  have hle : SigLe σ (σ.set i (.live w.heap.size base dsz)) := SigLe.set he0 trivial
  have hget : ∀ (j : Nat) e, (σ.set i (Ent.live w.heap.size base dsz))[j]? = some e → (i ≠ j ∧ σ[j]? = some e) ∨ (i = j ∧ e = .live w.heap.size base dsz) := by
    intro j e he
    by_cases hj : i = j
    · subst hj; simp [hlt] at he; exact .inr ⟨rfl, he.symm⟩
    · rw [List.getElem?_set_ne hj] at he; exact .inl ⟨hj, he⟩
  refine ⟨hle, ⟨by simp [H.len], fun j e C he hC => ?_, fun j j' b ba ba' d d' hj hj' => ?_⟩, h2, h3, h4, Nat.le_of_lt hs, fun k hk hn => ⟨hother k hk, ?_⟩⟩
  · have hx := hget j e he; clear he; rcases hx with ⟨hl, he⟩ | ⟨hl, he⟩
    · rw [List.getElem?_set_ne hl] at hC
      refine ((H.ent j e C he hC).congr fun b base d hb => ?_).mono hle
      subst hb; exact hother b (H.live_lt he)
    · subst hl; simp [hlt'] at hC; subst hC; subst he; exact hB
  · rcases hget j _ hj with ⟨hl, he⟩ | ⟨hl, he⟩ <;> rcases hget j' _ hj' with ⟨hl', he'⟩ | ⟨hl', he'⟩
    · exact H.inj j j' b ba ba' d d' he he'
    · cases he'; have := H.live_lt he; omega
    · cases he; have := H.live_lt he'; omega
    · omega
  · rintro ⟨j, bs, ds, C, hj1, hj2, hj3⟩
    rcases hget j _ hj1 with ⟨hl, he⟩ | ⟨hl, he⟩
    · rw [List.getElem?_set_ne hl] at hj2
      exact hn ⟨j, bs, ds, C, he, hj2, hj3⟩
    · cases he; omega

/-- A block dies. -/
theorem Step.kill {σ : Sig} {h : AH} {w : World} (H : HRel σ h w) {i b base dsz : Nat} {B : ABlk} (hi : σ[i]? = some (.live b base dsz)) (hB0 : h[i]? = some B) :
    Step σ h w (σ.set i .dead) (h.set i .dead) w := by
  have hlt : i < σ.length := (List.getElem?_eq_some_iff.1 hi).1
  have hlt' : i < h.length := (List.getElem?_eq_some_iff.1 hB0).1
  have hle : SigLe σ (σ.set i .dead) := SigLe.set hi trivial
  have hget : ∀ (j : Nat) e, (σ.set i Ent.dead)[j]? = some e → (i ≠ j ∧ σ[j]? = some e) ∨ (i = j ∧ e = .dead) := by
    intro j e he
    by_cases hj : i = j
    · subst hj; simp [hlt] at he; exact .inr ⟨rfl, he.symm⟩
    · rw [List.getElem?_set_ne hj] at he; exact .inl ⟨hj, he⟩
  refine ⟨hle, ⟨by simp [H.len], fun j e C he hC => ?_, fun j j' b ba ba' d d' hj hj' => ?_⟩, rfl, rfl, rfl, Nat.le_refl _, fun k hk hn => ⟨rfl, ?_⟩⟩
  · have hx := hget j e he; clear he; rcases hx with ⟨hl, he⟩ | ⟨hl, he⟩
    · rw [List.getElem?_set_ne hl] at hC
      exact (H.ent j e C he hC).mono hle
    · subst hl; simp [hlt'] at hC; subst hC; subst he; trivial
  · rcases hget j _ hj with ⟨hl, he⟩ | ⟨hl, he⟩ <;> rcases hget j' _ hj' with ⟨hl', he'⟩ | ⟨hl', he'⟩
    · exact H.inj j j' b ba ba' d d' he he'
    · cases he'
    · cases he
    · cases he
  · rintro ⟨j, bs, ds, C, hj1, hj2, hj3⟩
    rcases hget j _ hj1 with ⟨hl, he⟩ | ⟨hl, he⟩
    · rw [List.getElem?_set_ne hl] at hj2
      exact hn ⟨j, bs, ds, C, he, hj2, hj3⟩
    · cases he

/-- A block of the world that an abstract one has just left is taken over by a new one. -/
theorem Step.regrow {σ : Sig} {h : AH} {w w' : World} (H : HRel σ h w) {i b base dsz base' : Nat} {B B' : ABlk} (hi : σ[i]? = some (.live b base dsz)) (hB0 : h[i]? = some B) (hro : B.isRo = false)
    (h2 : w'.os = w.os) (h3 : w'.tape = w.tape) (h4 : w'.output = w.output) (hs : w.heap.size ≤ w'.heap.size)
    (hother : ∀ k, k < w.heap.size → k ≠ b → w'.heap[k]? = w.heap[k]?) (hB : BRel (σ.set i .dead ++ [.live b base' dsz]) w' (.live b base' dsz) B') :
    Step σ h w (σ.set i .dead ++ [.live b base' dsz]) (h.set i .dead ++ [B']) w' := by
  have hlt : i < σ.length := (List.getElem?_eq_some_iff.1 hi).1
  have hlt' : i < h.length := (List.getElem?_eq_some_iff.1 hB0).1
  have hle : SigLe σ (σ.set i .dead ++ [.live b base' dsz]) := (SigLe.set (e' := .dead) hi trivial).trans (SigLe.append _ _)
  have hget : ∀ (j : Nat) e, (σ.set i Ent.dead ++ [Ent.live b base' dsz])[j]? = some e → (j < σ.length ∧ i ≠ j ∧ σ[j]? = some e) ∨ (i = j ∧ e = .dead) ∨ (j = σ.length ∧ e = .live b base' dsz) := by
    intro j e he
    rcases Nat.lt_trichotomy j σ.length with hl | hl | hl
    · rw [List.getElem?_append_left (by simpa using hl)] at he
      by_cases hj : i = j
      · subst hj; simp [hlt] at he; exact .inr (.inl ⟨rfl, he.symm⟩)
      · rw [List.getElem?_set_ne hj] at he; exact .inl ⟨hl, hj, he⟩
    · subst hl; rw [List.getElem?_append_right (by simp)] at he; simp at he; exact .inr (.inr ⟨rfl, he.symm⟩)
    · rw [List.getElem?_append_right (by simp; omega)] at he
      simp at he
      have : j - σ.length ≠ 0 := by omega
      simp [this] at he
  have hh : ∀ (j : Nat), j < σ.length → i ≠ j → (h.set i ABlk.dead ++ [B'])[j]? = h[j]? := by
    intro j hl hj
    rw [List.getElem?_append_left (by simp [← H.len, hl]), List.getElem?_set_ne hj]
  refine ⟨hle, ⟨by simp [H.len], fun j e C he hC => ?_, fun j j' b1 ba ba' d d' hj hj' => ?_⟩, h2, h3, h4, hs, fun k hk hn => ⟨hother k hk fun hkb => hn ⟨i, base, dsz, B, by rw [hkb]; exact hi, hB0, hro⟩, ?_⟩⟩
  · have hx := hget j e he; clear he; rcases hx with ⟨hl, hj, he⟩ | ⟨hl, he⟩ | ⟨hl, he⟩
    · rw [hh j hl hj] at hC
      refine ((H.ent j e C he hC).congr fun b' base d hb => ?_).mono hle
      subst hb
      exact hother b' (H.live_lt he) fun hb => hj (H.inj i j b _ _ dsz _ hi (by rw [← hb]; exact he))
    · subst hl; subst he
      rw [List.getElem?_append_left (by simpa using hlt')] at hC
      simp [hlt'] at hC; subst hC; trivial
    · subst hl; subst he
      rw [H.len, List.getElem?_append_right (by simp)] at hC; simp at hC; subst hC; exact hB
  · rcases hget j _ hj with ⟨hl, hne, he⟩ | ⟨hl, he⟩ | ⟨hl, he⟩ <;> rcases hget j' _ hj' with ⟨hl', hne', he'⟩ | ⟨hl', he'⟩ | ⟨hl', he'⟩
    · exact H.inj j j' b1 ba ba' d d' he he'
    · cases he'
    · cases he'; exact absurd (H.inj i j b _ _ _ _ hi he) hne
    · cases he
    · cases he
    · cases he
    · cases he; exact absurd (H.inj i j' b _ _ _ _ hi he') hne'
    · cases he'
    · omega
  · rintro ⟨j, bs, ds, C, hj1, hj2, hj3⟩
    rcases hget j _ hj1 with ⟨hl, hne, he⟩ | ⟨hl, he⟩ | ⟨hl, he⟩
    · rw [hh j hl hne] at hj2
      exact hn ⟨j, bs, ds, C, he, hj2, hj3⟩
    · cases he
    · cases he; exact hn ⟨i, base, dsz, B, hi, hB0, hro⟩

/-- Numbers are held. -/
theorem Step.hold {σ : Sig} {h : AH} {w : World} (H : HRel σ h w) (n : Nat) : Step σ h w (σ ++ List.replicate n .unborn) (h ++ List.replicate n .unborn) w := by
  have hle := SigLe.append σ (List.replicate n .unborn)
  have hget : ∀ (i : Nat) e, (σ ++ List.replicate n Ent.unborn)[i]? = some e → (i < σ.length ∧ σ[i]? = some e) ∨ (σ.length ≤ i ∧ e = .unborn) := by
    intro i e he
    by_cases hl : i < σ.length
    · rw [List.getElem?_append_left hl] at he; exact .inl ⟨hl, he⟩
    · rw [List.getElem?_append_right (by omega), List.getElem?_replicate] at he
      split at he <;> simp at he
      exact .inr ⟨by omega, he.symm⟩
  refine ⟨hle, ⟨by simp [H.len], fun i e C he hC => ?_, fun i j b ba ba' d d' hi hj => ?_⟩, rfl, rfl, rfl, Nat.le_refl _, fun k hk hn => ⟨rfl, ?_⟩⟩
  · have hx := hget i e he; clear he; rcases hx with ⟨hl, he⟩ | ⟨hl, he⟩
    · rw [List.getElem?_append_left (by rw [← H.len]; exact hl)] at hC
      exact (H.ent i e C he hC).mono hle
    · rw [List.getElem?_append_right (by rw [← H.len]; exact hl), List.getElem?_replicate] at hC
      split at hC <;> simp at hC
      subst hC; subst he; trivial
  · rcases hget i _ hi with ⟨hl, he⟩ | ⟨hl, he⟩ <;> rcases hget j _ hj with ⟨hl', he'⟩ | ⟨hl', he'⟩
    · exact H.inj i j b ba ba' d d' he he'
    · cases he'
    · cases he
    · cases he
  · rintro ⟨j, bs, ds, C, hj1, hj2, hj3⟩
    rcases hget j _ hj1 with ⟨hl, he⟩ | ⟨hl, he⟩
    · rw [List.getElem?_append_left (by rw [← H.len]; exact hl)] at hj2
      exact hn ⟨j, bs, ds, C, he, hj2, hj3⟩
    · cases he

end Go.Abs
