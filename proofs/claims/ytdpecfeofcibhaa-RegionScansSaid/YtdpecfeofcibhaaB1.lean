/- Words for proofs over printed readings: how the words run, frames between heaps, slices that are known. -/
import Derived.Test.YtdpecfeofcibhaaA18
namespace Go.Abs

section words
variable {α : Type}

@[simp] theorem ob_some (a : α) (K : α → Prop) : ob (some a) K = K a := rfl
@[congr] theorem ob_congr {x y : Option α} {K : α → Prop} (h : x = y) : ob x K = ob y K := by rw [h]
@[simp] theorem lt_eq (a : α) (F : α → Prop) : lt a F = F a := rfl
@[simp] theorem new_eq (h : AH) (b : ABlk) (F : Nat → AH → Prop) : new h b F = F h.length (h ++ [b]) := rfl
@[simp] theorem hold_eq (h : AH) (n : Nat) (F : AH → Prop) : hold h n F = F (h ++ List.replicate n .unborn) := rfl
@[simp] theorem guardR_true (K : Prop) : guardR true K = K := rfl
@[congr] theorem guardR_congr {a b : Bool} {K : Prop} (h : a = b) : guardR a K = guardR b K := by rw [h]
@[simp] theorem chkInt_int (k : IntKind) (n : Int) (K : Int → Prop) : chkInt k (.int k n) K = K n := by simp [chkInt]
@[congr] theorem chkInt_congr {k : IntKind} {x y : AV} {K : Int → Prop} (h : x = y) : chkInt k x K = chkInt k y K := by rw [h]
@[simp] theorem chkBool_bool (n : Bool) (K : Bool → Prop) : chkBool (.bool n) K = K n := rfl
@[congr] theorem chkBool_congr {x y : AV} {K : Bool → Prop} (h : x = y) : chkBool x K = chkBool y K := by rw [h]
@[simp] theorem chkStr_str (n : List UInt8) (K : List UInt8 → Prop) : chkStr (.str n) K = K n := rfl
@[congr] theorem chkStr_congr {x y : AV} {K : List UInt8 → Prop} (h : x = y) : chkStr x K = chkStr y K := by rw [h]
@[simp] theorem chkPtr_ptr (n : Option (Nat × Nat)) (K : Option (Nat × Nat) → Prop) : chkPtr (.ptr n) K = K n := rfl
@[congr] theorem chkPtr_congr {x y : AV} {K : Option (Nat × Nat) → Prop} (h : x = y) : chkPtr x K = chkPtr y K := by rw [h]
@[simp] theorem chkSl_slice (n : Option Sl) (K : Option Sl → Prop) : chkSl (.slice n) K = K n := rfl
@[congr] theorem chkSl_congr {x y : AV} {K : Option Sl → Prop} (h : x = y) : chkSl x K = chkSl y K := by rw [h]
@[simp] theorem chkMap_map (n : Option Nat) (K : Option Nat → Prop) : chkMap (.map n) K = K n := rfl
@[congr] theorem chkMap_congr {x y : AV} {K : Option Nat → Prop} (h : x = y) : chkMap x K = chkMap y K := by rw [h]
@[simp] theorem chkFn_fn (f : FuncId) (a c : List AV) (K : FuncId → List AV → List AV → Prop) : chkFn (.fn f a c) K = K f a c := rfl
@[congr] theorem chkFn_congr {x y : AV} {K : FuncId → List AV → List AV → Prop} (h : x = y) : chkFn x K = chkFn y K := by rw [h]
@[simp] theorem asCons_cons (a : AV) (l : List AV) (F : AV → List AV → Prop) : asCons (a :: l) F = F a l := rfl
@[congr] theorem asCons_congr {x y : List AV} {K : AV → List AV → Prop} (h : x = y) : asCons x K = asCons y K := by rw [h]
@[simp] theorem asNil_nil (F : Prop) : asNil [] F = F := rfl
@[congr] theorem asNil_congr {x y : List AV} {K : Prop} (h : x = y) : asNil x K = asNil y K := by rw [h]
@[simp] theorem ints2_eq (k : IntKind) (n0 n1 : Int) (F : Int → Int → Prop) : ints2 k [.int k n0, .int k n1] F = F n0 n1 := by simp [ints2]
@[congr] theorem ints2_congr {k : IntKind} {x y : List AV} {F : Int → Int → Prop} (h : x = y) : ints2 k x F = ints2 k y F := by rw [h]
@[simp] theorem ints3_eq (k : IntKind) (n0 n1 n2 : Int) (F : Int → Int → Int → Prop) : ints3 k [.int k n0, .int k n1, .int k n2] F = F n0 n1 n2 := by simp [ints3]
@[congr] theorem ints3_congr {k : IntKind} {x y : List AV} {F : Int → Int → Int → Prop} (h : x = y) : ints3 k x F = ints3 k y F := by rw [h]
@[simp] theorem ints4_eq (k : IntKind) (n0 n1 n2 n3 : Int) (F : Int → Int → Int → Int → Prop) : ints4 k [.int k n0, .int k n1, .int k n2, .int k n3] F = F n0 n1 n2 n3 := by simp [ints4]
@[congr] theorem ints4_congr {k : IntKind} {x y : List AV} {F : Int → Int → Int → Int → Prop} (h : x = y) : ints4 k x F = ints4 k y F := by rw [h]
@[simp] theorem ints5_eq (k : IntKind) (n0 n1 n2 n3 n4 : Int) (F : Int → Int → Int → Int → Int → Prop) : ints5 k [.int k n0, .int k n1, .int k n2, .int k n3, .int k n4] F = F n0 n1 n2 n3 n4 := by simp [ints5]
@[congr] theorem ints5_congr {k : IntKind} {x y : List AV} {F : Int → Int → Int → Int → Int → Prop} (h : x = y) : ints5 k x F = ints5 k y F := by rw [h]
@[simp] theorem ints6_eq (k : IntKind) (n0 n1 n2 n3 n4 n5 : Int) (F : Int → Int → Int → Int → Int → Int → Prop) : ints6 k [.int k n0, .int k n1, .int k n2, .int k n3, .int k n4, .int k n5] F = F n0 n1 n2 n3 n4 n5 := by simp [ints6]
@[congr] theorem ints6_congr {k : IntKind} {x y : List AV} {F : Int → Int → Int → Int → Int → Int → Prop} (h : x = y) : ints6 k x F = ints6 k y F := by rw [h]
@[simp] theorem ints7_eq (k : IntKind) (n0 n1 n2 n3 n4 n5 n6 : Int) (F : Int → Int → Int → Int → Int → Int → Int → Prop) : ints7 k [.int k n0, .int k n1, .int k n2, .int k n3, .int k n4, .int k n5, .int k n6] F = F n0 n1 n2 n3 n4 n5 n6 := by simp [ints7]
@[congr] theorem ints7_congr {k : IntKind} {x y : List AV} {F : Int → Int → Int → Int → Int → Int → Int → Prop} (h : x = y) : ints7 k x F = ints7 k y F := by rw [h]
@[simp] theorem ints8_eq (k : IntKind) (n0 n1 n2 n3 n4 n5 n6 n7 : Int) (F : Int → Int → Int → Int → Int → Int → Int → Int → Prop) : ints8 k [.int k n0, .int k n1, .int k n2, .int k n3, .int k n4, .int k n5, .int k n6, .int k n7] F = F n0 n1 n2 n3 n4 n5 n6 n7 := by simp [ints8]
@[congr] theorem ints8_congr {k : IntKind} {x y : List AV} {F : Int → Int → Int → Int → Int → Int → Int → Int → Prop} (h : x = y) : ints8 k x F = ints8 k y F := by rw [h]
@[simp] theorem asAgg_agg (l : List AV) (F : List AV → Prop) : asAgg (.agg l) F = F l := rfl
@[congr] theorem asAgg_congr {x y : AV} {K : List AV → Prop} (h : x = y) : asAgg x K = asAgg y K := by rw [h]
@[simp] theorem asTup_tup (l : List AV) (F : List AV → Prop) : asTup (.tup l) F = F l := rfl
@[congr] theorem asTup_congr {x y : AV} {K : List AV → Prop} (h : x = y) : asTup x K = asTup y K := by rw [h]
@[simp] theorem onSl_none (A : Prop) (B : Sl → Prop) : onSl none A B = A := rfl
@[simp] theorem onSl_some (s : Sl) (A : Prop) (B : Sl → Prop) : onSl (some s) A B = B s := rfl
@[congr] theorem onSl_congr {x y : Option Sl} {A : Prop} {B : Sl → Prop} (h : x = y) : onSl x A B = onSl y A B := by rw [h]
@[simp] theorem onMap_none (A : Prop) (B : Nat → Prop) : onMap none A B = A := rfl
@[simp] theorem onMap_some (s : Nat) (A : Prop) (B : Nat → Prop) : onMap (some s) A B = B s := rfl
@[congr] theorem onMap_congr {x y : Option Nat} {A : Prop} {B : Nat → Prop} (h : x = y) : onMap x A B = onMap y A B := by rw [h]
@[simp] theorem onEnt_none (A : Prop) (B : MEnt → Prop) : onEnt none A B = A := rfl
@[simp] theorem onEnt_some (s : MEnt) (A : Prop) (B : MEnt → Prop) : onEnt (some s) A B = B s := rfl
@[congr] theorem onEnt_congr {x y : Option MEnt} {A : Prop} {B : MEnt → Prop} (h : x = y) : onEnt x A B = onEnt y A B := by rw [h]
@[simp] theorem onIx_none (A : Prop) (B : Nat → Prop) : onIx none A B = A := rfl
@[simp] theorem onIx_some (s : Nat) (A : Prop) (B : Nat → Prop) : onIx (some s) A B = B s := rfl
@[congr] theorem onIx_congr {x y : Option Nat} {A : Prop} {B : Nat → Prop} (h : x = y) : onIx x A B = onIx y A B := by rw [h]
theorem need_true {c : Prop} [Decidable c] {A : Prop} (h : c) : need c A = A := if_pos h
theorem need_iff {c : Prop} [Decidable c] {A : Prop} : need c A ↔ c ∧ A := by unfold need; by_cases h : c <;> simp [h]
@[congr] theorem need_congr {c d : Prop} {i : Decidable c} [Decidable d] {A : Prop} (h : c = d) : @need c i A = need d A := by cases h; congr
@[simp] theorem need_T (A : Prop) {i : Decidable True} : @need True i A = A := if_pos trivial
@[simp] theorem br_true (A B : Prop) : br true A B = A := rfl
@[simp] theorem br_false (A B : Prop) : br false A B = B := rfl
@[congr] theorem br_congr {a b : Bool} {A B : Prop} (h : a = b) : br a A B = br b A B := by rw [h]
theorem br_pos {c : Prop} [Decidable c] {A B : Prop} (h : c) : br (decide c) A B = A := by simp [br, h]
theorem br_neg {c : Prop} [Decidable c] {A B : Prop} (h : ¬c) : br (decide c) A B = B := by simp [br, h]
theorem br_eq {a b : Int} {A B : Prop} (h : a = b) : br (a == b) A B = A := by simp [br, h]
theorem br_neq {a b : Int} {A B : Prop} (h : ¬a = b) : br (a == b) A B = B := by
  have : (a == b) = false := by simpa using h
  rw [this]; rfl
theorem br_ne_eq {a b : Int} {A B : Prop} (h : a = b) : br (a != b) A B = B := by simp [br, h]
theorem br_ne_neq {a b : Int} {A B : Prop} (h : ¬a = b) : br (a != b) A B = A := by
  have : (a != b) = true := by simpa using h
  rw [this]; rfl
theorem br_intro {b : Bool} {A B : Prop} (h1 : b = true → A) (h2 : b = false → B) : br b A B := by
  cases b
  · exact h2 rfl
  · exact h1 rfl
theorem br_dec {c : Prop} [Decidable c] {A B : Prop} (h1 : c → A) (h2 : ¬c → B) : br (decide c) A B :=
  br_intro (fun h => h1 (by simpa using h)) fun h => h2 (by simpa using h)
theorem br_ieq {a b : Int} {A B : Prop} (h1 : a = b → A) (h2 : ¬a = b → B) : br (a == b) A B :=
  br_intro (fun h => h1 (by simpa using h)) fun h => h2 (by simpa using h)
theorem br_ine {a b : Int} {A B : Prop} (h1 : ¬a = b → A) (h2 : a = b → B) : br (a != b) A B :=
  br_intro (fun h => h1 (by simpa using h)) fun h => h2 (by simpa using h)

theorem wrap_i64 {x : Int} (h1 : -9223372036854775808 ≤ x) (h2 : x < 9223372036854775808) : IntKind.wrap .i64 x = x := by
  have e : IntKind.wrap .i64 x = if (true && decide (x % (2 ^ 64 : Int) ≥ (2 ^ 63 : Int))) = true then x % (2 ^ 64 : Int) - (2 ^ 64 : Int) else x % (2 ^ 64 : Int) := rfl
  rw [e]
  simp only [Bool.true_and, decide_eq_true_eq]
  split <;> omega
theorem wrap_u8 {x : Int} : IntKind.wrap .u8 x = x % 256 := by
  have e : IntKind.wrap .u8 x = if (false && decide (x % (2 ^ 8 : Int) ≥ (2 ^ 7 : Int))) = true then x % (2 ^ 8 : Int) - (2 ^ 8 : Int) else x % (2 ^ 8 : Int) := rfl
  rw [e]; simp
theorem wrap_u32 {x : Int} : IntKind.wrap .u32 x = x % 4294967296 := by
  have e : IntKind.wrap .u32 x = if (false && decide (x % (2 ^ 32 : Int) ≥ (2 ^ 31 : Int))) = true then x % (2 ^ 32 : Int) - (2 ^ 32 : Int) else x % (2 ^ 32 : Int) := rfl
  rw [e]; simp
theorem wrap_u64 {x : Int} : IntKind.wrap .u64 x = x % 18446744073709551616 := by
  have e : IntKind.wrap .u64 x = if (false && decide (x % (2 ^ 64 : Int) ≥ (2 ^ 63 : Int))) = true then x % (2 ^ 64 : Int) - (2 ^ 64 : Int) else x % (2 ^ 64 : Int) := rfl
  rw [e]; simp
end words

mutual
theorem AV.beq_self : ∀ v : AV, AV.beq v v = true
  | .bot => rfl
  | .bool _ => by simp [AV.beq]
  | .int _ _ => by simp [AV.beq]
  | .str _ => by simp [AV.beq]
  | .ptr _ => by simp [AV.beq]
  | .slice _ => by simp [AV.beq]
  | .map _ => by simp [AV.beq]
  | .fn _ a c => by simp [AV.beq, AV.beqs_self a, AV.beqs_self c]
  | .nilFn => rfl
  | .agg a => by simp [AV.beq, AV.beqs_self a]
  | .tup a => by simp [AV.beq, AV.beqs_self a]
theorem AV.beqs_self : ∀ l : List AV, AV.beqs l l = true
  | [] => rfl
  | a :: l => by simp [AV.beqs, AV.beq_self a, AV.beqs_self l]
end
attribute [simp] AV.beq_self AV.beqs_self

/-! ## Frames -/

/-- What was there is as it was, but for some blocks. -/
structure Fr (S : List Nat) (h h' : AH) : Prop where
  len : h.length ≤ h'.length
  get : ∀ i, i < h.length → i ∉ S → h'[i]? = h[i]?

theorem Fr.refl (S : List Nat) (h : AH) : Fr S h h := ⟨Nat.le_refl _, fun _ _ _ => rfl⟩
theorem Fr.rfl' {S : List Nat} {h : AH} : Fr S h h := .refl S h
theorem Fr.trans {S : List Nat} {h h' h'' : AH} (a : Fr S h h') (b : Fr S h' h'') : Fr S h h'' :=
  ⟨Nat.le_trans a.len b.len, fun i hi hs => by rw [b.get i (Nat.lt_of_lt_of_le hi a.len) hs, a.get i hi hs]⟩
theorem Fr.mono {S T : List Nat} {h h' : AH} (a : Fr S h h') (hs : ∀ i, i < h.length → i ∈ S → i ∈ T) : Fr T h h' :=
  ⟨a.len, fun i hi ht => a.get i hi fun h => ht (hs i hi h)⟩
theorem Fr.nil {S : List Nat} {h h' : AH} (a : Fr [] h h') : Fr S h h' := a.mono (by simp)
/-- What lies beyond does not count. -/
theorem Fr.fresh {S : List Nat} {h h' : AH} (a : Fr S h h') (hs : ∀ i ∈ S, h.length ≤ i) : Fr [] h h' :=
  a.mono fun i hi hm => absurd (hs i hm) (by omega)
theorem Fr.keep {S : List Nat} {h h' : AH} (a : Fr S h h') {i : Nat} {B : ABlk} (e : h[i]? = some B) (hi : i ∉ S) : h'[i]? = some B := by
  have := (List.getElem?_eq_some_iff.1 e).1
  rw [a.get i this hi, e]
theorem Fr.kept {h h' : AH} (a : Fr [] h h') {i : Nat} {B : ABlk} (e : h[i]? = some B) : h'[i]? = some B := a.keep e (by simp)
theorem Fr.app {S : List Nat} {h h' : AH} {l : AH} (a : Fr S (h ++ l) h') : Fr S h h' :=
  ⟨by have := a.len; simp at this; omega, fun i hi hs => by rw [a.get i (by simp; omega) hs, List.getElem?_append_left hi]⟩
theorem Fr.snoc {S : List Nat} {h h' : AH} {B : ABlk} (a : Fr S (h ++ [B]) h') (hs : h.length ∉ S) : Fr S h h' ∧ h'[h.length]? = some B :=
  ⟨a.app, a.keep (by simp) hs⟩
theorem Fr.snoc' {h h' : AH} {B : ABlk} (a : Fr [] (h ++ [B]) h') : Fr [] h h' ∧ h'[h.length]? = some B := a.snoc (by simp)
theorem Fr.add {S : List Nat} {h h' : AH} (a : Fr S h h') (l : AH) : Fr S h (h' ++ l) :=
  ⟨by have := a.len; simp; omega, fun i hi hs => by rw [List.getElem?_append_left (by have := a.len; omega), a.get i hi hs]⟩
theorem Fr.push (S : List Nat) (h l : AH) : Fr S h (h ++ l) := (Fr.refl S h).add l
theorem Fr.set {S : List Nat} {h h' : AH} (a : Fr S h h') {i : Nat} (B : ABlk) (hi : i ∈ S ∨ h.length ≤ i) : Fr S h (h'.set i B) :=
  ⟨by simpa using a.len, fun j hj hs => by rw [List.getElem?_set_ne (by rintro rfl; rcases hi with h1 | h1; exact hs h1; omega), a.get j hj hs]⟩

/-! ## Reads and writes -/

theorem cell_of {h : AH} {i o : Nat} {c : List AV} {ro : Bool} (e : h[i]? = some (.cells c ro)) : h.cell i o = c[o]? := by
  simp [AH.cell, AH.row, e]
theorem cellsAt_of {h : AH} {i o n : Nat} {c : List AV} {ro : Bool} (e : h[i]? = some (.cells c ro)) : h.cellsAt i o n = if o + n ≤ c.length then some ((c.drop o).take n) else none := by
  simp [AH.cellsAt, AH.row, e]
theorem puts_of {h : AH} {i o : Nat} {c vs : List AV} (e : h[i]? = some (.cells c false)) : h.puts i o vs = if o + vs.length ≤ c.length then some (h.set i (.cells (c.take o ++ vs ++ c.drop (o + vs.length)) false)) else none := by
  simp [AH.puts, e]
/-- A block read whole, and written whole. -/
theorem cellsAt_all {h : AH} {i n : Nat} {c : List AV} {ro : Bool} (e : h[i]? = some (.cells c ro)) (hn : c.length = n) : h.cellsAt i 0 n = some c := by
  rw [cellsAt_of e, if_pos (by omega)]; simp [← hn]
theorem puts_all {h : AH} {i : Nat} {c vs : List AV} (e : h[i]? = some (.cells c false)) (hn : vs.length = c.length) : h.puts i 0 vs = some (h.set i (.cells vs false)) := by
  rw [puts_of e, if_pos (by omega)]; simp [hn]
theorem get_set {h : AH} {i : Nat} {B C : ABlk} (e : h[i]? = some B) : (h.set i C)[i]? = some C := List.getElem?_set_self (List.getElem?_eq_some_iff.1 e).1
theorem get_set_ne {h : AH} {i j : Nat} {B C : ABlk} (e : h[j]? = some B) (hn : i ≠ j) : (h.set i C)[j]? = some B := by rw [List.getElem?_set_ne hn, e]
theorem get_push {h : AH} {i : Nat} {B : ABlk} (e : h[i]? = some B) (l : AH) : (h ++ l)[i]? = some B := by
  rw [List.getElem?_append_left (List.getElem?_eq_some_iff.1 e).1, e]
theorem get_new (h : AH) (B : ABlk) : (h ++ [B])[h.length]? = some B := by simp
theorem ob_all {h : AH} {i n : Nat} {c : List AV} {ro : Bool} {K : List AV → Prop} (e : h[i]? = some (.cells c ro)) (hn : c.length = n) (hk : K c) : ob (h.cellsAt i 0 n) K := by
  rw [cellsAt_all e hn]; exact hk
theorem ob_puts {h : AH} {i : Nat} {c vs : List AV} {K : AH → Prop} (e : h[i]? = some (.cells c false)) (hn : vs.length = c.length) (hk : K (h.set i (.cells vs false))) : ob (h.puts i 0 vs) K := by
  rw [puts_all e hn]; exact hk
/-- A new block. -/
theorem new_i {h : AH} {b : ABlk} {K : Nat → AH → Prop} (hk : ∀ i h', h'[i]? = some b → Fr [] h h' → h.length ≤ i → K i h') : new h b K :=
  hk _ _ (get_new h b) (.push _ _ _) (Nat.le_refl _)
/-- A block is written whole. -/
theorem put_i {h : AH} {i : Nat} {c vs : List AV} {K : AH → Prop} (e : h[i]? = some (.cells c false)) (hn : vs.length = c.length) (hk : ∀ h', h'[i]? = some (.cells vs false) → Fr [i] h h' → K h') : ob (h.puts i 0 vs) K :=
  ob_puts e hn (hk _ (get_set e) ((Fr.refl _ _).set _ (.inl (by simp))))
/-- Some cells of a block are written. -/
theorem puts_i {h : AH} {i o : Nat} {c vs : List AV} {K : AH → Prop} (e : h[i]? = some (.cells c false)) (hn : o + vs.length ≤ c.length) (hk : ∀ h', h'[i]? = some (.cells (c.take o ++ vs ++ c.drop (o + vs.length)) false) → Fr [i] h h' → K h') : ob (h.puts i o vs) K := by
  rw [puts_of e, if_pos hn]
  exact hk _ (get_set e) ((Fr.refl _ _).set _ (.inl (by simp)))
theorem put1_i {h : AH} {i o : Nat} {c : List AV} {v : AV} {K : AH → Prop} (e : h[i]? = some (.cells c false)) (hn : o < c.length) (hk : ∀ h', h'[i]? = some (.cells (c.set o v) false) → Fr [i] h h' → K h') : ob (h.puts i o [v]) K := by
  refine puts_i e (show o + 1 ≤ _ from hn) fun h' e' f' => hk h' ?_ f'
  rw [e', List.set_eq_take_append_cons_drop, if_pos hn]
  simp
/-- Numbers are held for blocks. -/
theorem hold_i {h : AH} {n : Nat} {K : AH → Prop} (hk : ∀ h', Fr [] h h' → (∀ k, k < n → h'[h.length + k]? = some .unborn) → K h') : hold h n K :=
  hk _ (.push _ _ _) fun k hk => by rw [List.getElem?_append_right (by omega)]; simp [hk]
theorem hold0_i {h : AH} {K : AH → Prop} (hk : K h) : hold h 0 K := by
  show K (h ++ [])
  rwa [List.append_nil]
theorem birth_i {h : AH} {i : Nat} {b : ABlk} {K : AH → Prop} (e : h[i]? = some .unborn) (hk : ∀ h', h'[i]? = some b → Fr [i] h h' → K h') : birth h i b K := by
  unfold birth unbornAt
  rw [e]
  exact hk _ (get_set e) ((Fr.refl _ _).set _ (.inl (by simp)))
theorem mapAt_of {h : AH} {i : Nat} {es : List MEnt} {c : Nat} (e : h[i]? = some (.map es c)) : h.mapAt i = some (es, c) := by
  simp [AH.mapAt, e]
theorem cellsAt_cell {h : AH} {i o n k : Nat} {cs : List AV} (e : h.cellsAt i o n = some cs) (hk : k < n) : h.cell i (o + k) = cs[k]? := by
  unfold AH.cellsAt at e
  unfold AH.cell
  cases hr : h.row i with
  | none => simp [hr] at e
  | some c =>
    simp only [hr, Option.bind_some] at e ⊢
    split at e
    · cases e
      rw [List.getElem?_take_of_lt hk, List.getElem?_drop]
    · cases e
theorem cellsAt_len {h : AH} {i o n : Nat} {cs : List AV} (e : h.cellsAt i o n = some cs) : cs.length = n := by
  unfold AH.cellsAt at e
  cases hr : h.row i with
  | none => simp [hr] at e
  | some c =>
    simp only [hr, Option.bind_some] at e
    split at e
    · cases e; simp; omega
    · cases e
theorem cellsAt_sub {h : AH} {i o n k m : Nat} {cs : List AV} (e : h.cellsAt i o n = some cs) (hk : k + m ≤ n) : h.cellsAt i (o + k) m = some ((cs.drop k).take m) := by
  unfold AH.cellsAt at e ⊢
  cases hr : h.row i with
  | none => simp [hr] at e
  | some c =>
    simp only [hr, Option.bind_some] at e ⊢
    split at e
    · cases e
      rw [if_pos (by omega), List.drop_take, List.take_take, List.drop_drop]
      congr 2
      omega
    · cases e
theorem row_congr {h h' : AH} {i : Nat} (e : h'[i]? = h[i]?) : h'.row i = h.row i := by simp [AH.row, e]
theorem cell_congr {h h' : AH} {i o : Nat} (e : h'[i]? = h[i]?) : h'.cell i o = h.cell i o := by simp [AH.cell, row_congr e]
theorem cellsAt_congr {h h' : AH} {i o n : Nat} (e : h'[i]? = h[i]?) : h'.cellsAt i o n = h.cellsAt i o n := by simp [AH.cellsAt, row_congr e]
theorem cellsAt_lt {h : AH} {i o n : Nat} {cs : List AV} (e : h.cellsAt i o n = some cs) : i < h.length := by
  unfold AH.cellsAt AH.row at e
  by_cases hi : i < h.length
  · exact hi
  · rw [List.getElem?_eq_none (by omega)] at e; simp at e
theorem cell_lt {h : AH} {i o : Nat} {c : AV} (e : h.cell i o = some c) : i < h.length := by
  unfold AH.cell AH.row at e
  by_cases hi : i < h.length
  · exact hi
  · rw [List.getElem?_eq_none (by omega)] at e; simp at e
theorem Fr.cell {S : List Nat} {h h' : AH} (a : Fr S h h') {i o : Nat} {c : AV} (e : h.cell i o = some c) (hi : i ∉ S) : h'.cell i o = some c := by
  rw [cell_congr (a.get i (cell_lt e) hi), e]
theorem Fr.cells {S : List Nat} {h h' : AH} (a : Fr S h h') {i o n : Nat} {c : List AV} (e : h.cellsAt i o n = some c) (hi : i ∉ S) : h'.cellsAt i o n = some c := by
  rw [cellsAt_congr (a.get i (cellsAt_lt e) hi), e]

/-! ## Slices that are known -/

structure SlOk (sz : Nat) (s : Sl) : Prop where
  le : s.len ≤ s.cap
  slack : s.slack = none ∨ s.slack = some sz ∨ (s.slack = some 0 ∧ s.cap = 0)

/-- A slice's cells. -/
def SlAt (h : AH) (sz : Nat) : Option Sl → List AV → Prop
  | none, cs => cs = []
  | some s, cs => SlOk sz s ∧ s.len * sz = cs.length ∧ (cs ≠ [] → h.cellsAt s.id s.off (s.len * sz) = some cs)

/-- The block that a slice stands on, if it has any element. -/
def slId : Option Sl → List Nat
  | none => []
  | some s => if s.len = 0 then [] else [s.id]

theorem SlAt.len {h : AH} {sz : Nat} {x : Option Sl} {cs : List AV} (a : SlAt h sz x cs) : lenO x * sz = cs.length := by
  cases x with
  | none => cases a; simp [lenO]
  | some s => exact a.2.1
theorem SlAt.fr {h h' : AH} {sz : Nat} {x : Option Sl} {cs : List AV} (a : SlAt h sz x cs) {S : List Nat} (f : Fr S h h') (hs : ∀ i ∈ slId x, i ∉ S) : SlAt h' sz x cs := by
  cases x with
  | none => exact a
  | some s =>
    refine ⟨a.1, a.2.1, fun hc => f.cells (a.2.2 hc) (hs _ ?_)⟩
    have : s.len ≠ 0 := by
      intro h0
      have := a.2.1
      rw [h0, Nat.zero_mul] at this
      exact hc (List.length_eq_zero_iff.1 this.symm)
    simp [slId, this]
theorem SlAt.kept {h h' : AH} {sz : Nat} {x : Option Sl} {cs : List AV} (a : SlAt h sz x cs) (f : Fr [] h h') : SlAt h' sz x cs := a.fr f (by simp)
/-- One cell. -/
theorem SlAt.at_ {h : AH} {sz : Nat} {s : Sl} {cs : List AV} (a : SlAt h sz (some s) cs) {k : Nat} (hk : k < cs.length) : h.cell s.id (s.off + k) = cs[k]? :=
  cellsAt_cell (a.2.2 (by intro h; simp [h] at hk)) (by rw [a.2.1]; exact hk)
/-- Some cells. -/
theorem SlAt.sub {h : AH} {sz : Nat} {s : Sl} {cs : List AV} (a : SlAt h sz (some s) cs) {k m : Nat} (hm : 0 < m) (hk : k + m ≤ cs.length) : h.cellsAt s.id (s.off + k) m = some ((cs.drop k).take m) :=
  cellsAt_sub (a.2.2 (by intro h; simp [h] at hk; omega)) (by rw [a.2.1]; exact hk)

end Go.Abs
