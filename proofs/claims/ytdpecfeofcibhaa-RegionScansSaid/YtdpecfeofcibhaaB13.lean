/- A device is made. -/
import Derived.Test.YtdpecfeofcibhaaB12
namespace Go.Abs

def newB (P S : Nat) : FB := ⟨List.replicate P (blankP S), 0, 0, false⟩
def newF (n B P S L : Nat) : FS := ⟨0, 0, false, B, P, S, L, List.replicate n (newB P S), 0, []⟩

theorem flatMap_append' {α β : Type} (f : α → List β) (a b : List α) : (a ++ b).flatMap f = a.flatMap f ++ b.flatMap f := by simp

theorem ids_nodup (x : Option Sl) : (ids x).Nodup := by cases x <;> simp [ids]

/-- A block more. -/
theorem FRep.addB {h h' : AH} {L : FL} {F : FS} (a : FRep h L F) {N : Nat} (hN : h.length ≤ N) {j pid : Nat} {ys : List (Option Sl)} {c : FB} (hj : h.length ≤ pid ∧ pid < j ∧ j < N) (hys : ∀ y ∈ ys, ∀ i ∈ slId y, j < i ∧ i < N)
    {s : Option Sl} (hs : ∀ i ∈ ids s, i ∈ ids L.bsl ∨ N ≤ i) (f : Fr (L.i :: ids L.bsl) h h') (hb : BRep h' F.P F.S ⟨j, pid, ys⟩ c)
    (hm : h'[L.i]? = some (.cells [.int .i64 F.after, .int .i64 F.keep, .bool F.down, .int .i64 F.B, .int .i64 F.P, .int .i64 F.S, .int .i64 F.L, .slice s, .int .i64 F.bytes, .slice L.tsl] false))
    (ho : Own h' 1 s (L.bl.map (fun b => .ptr (some (b.j, 0))) ++ [.ptr (some (j, 0))])) :
    FRep h' { L with bsl := s, bl := L.bl ++ [⟨j, pid, ys⟩] } { F with blks := F.blks ++ [c] } := by
  have hlt := a.fp_lt
  have hrl := a.rd_lt
  have nd := a.nodup
  have hsep := a.sep
  have hfp : ∀ i, i ∈ FL.fp { L with bsl := s, bl := L.bl ++ [⟨j, pid, ys⟩] } → i ∈ L.fp ∨ N ≤ i ∨ i = j ∨ i = pid := by
    intro i hi
    unfold FL.fp at hi ⊢
    simp only [List.mem_cons, List.mem_append, flatMap_append', List.flatMap_cons, List.flatMap_nil, List.append_nil, List.not_mem_nil, or_false] at hi ⊢
    rcases hi with h1 | h1 | h1 | h1 | h1
    · exact .inl (.inl h1)
    · rcases hs i h1 with h2 | h2
      · exact .inl (.inr (.inl h2))
      · exact .inr (.inl h2)
    · exact .inl (.inr (.inr (.inl h1)))
    · exact .inl (.inr (.inr (.inr h1)))
    · exact .inr (.inr h1)
  have keepO : ∀ i ∈ L.fp, i ≠ L.i → i ∉ ids L.bsl → i ∉ L.i :: ids L.bsl := fun i _ h1 h2 h3 => by
    rcases List.mem_cons.1 h3 with h4 | h4
    · exact h1 h4
    · exact h2 h4
  have ndp : ∀ i ∈ ids L.tsl ++ L.bl.flatMap (fun b => [b.j, b.pid]), i ≠ L.i ∧ i ∉ ids L.bsl := by
    intro i hi
    unfold FL.fp at nd
    rw [List.nodup_cons, List.nodup_append] at nd
    refine ⟨fun h1 => nd.1 ?_, fun h1 => nd.2.2.2 i h1 i hi rfl⟩
    rw [← h1]; exact List.mem_append_right _ hi
  have rdT : ∀ i ∈ L.rd, i ∉ L.i :: ids L.bsl := fun i hi h1 => hsep i hi (by
    unfold FL.fp
    rcases List.mem_cons.1 h1 with h4 | h4
    · rw [h4]; simp
    · simp [h4])
  refine ⟨hm, ?_, ?_, ?_, a.tlen, ?_, ?_, ?_, ?_⟩
  · simpa using ho
  · exact a.town.fr f fun i hi => keepO i (by unfold FL.fp; simp [hi]) (ndp i (List.mem_append_left _ hi)).1 (ndp i (List.mem_append_left _ hi)).2
  · simp [a.blen]
  · intro k b d hb' hd'
    simp only at hb' hd'
    rcases Nat.lt_trichotomy k L.bl.length with hk | hk | hk
    · rw [List.getElem?_append_left hk] at hb'
      rw [List.getElem?_append_left (by rw [← a.blen]; exact hk)] at hd'
      have hbm := List.mem_of_getElem? hb'
      have m1 : b.j ∈ ids L.tsl ++ L.bl.flatMap (fun b => [b.j, b.pid]) := List.mem_append_right _ (List.mem_flatMap.2 ⟨b, hbm, by simp⟩)
      have m2 : b.pid ∈ ids L.tsl ++ L.bl.flatMap (fun b => [b.j, b.pid]) := List.mem_append_right _ (List.mem_flatMap.2 ⟨b, hbm, by simp⟩)
      exact (a.blk k b d hb' hd').fr f (keepO _ (FL.mem_j hb') (ndp _ m1).1 (ndp _ m1).2) (keepO _ (FL.mem_pid hb') (ndp _ m2).1 (ndp _ m2).2) fun x hx i hi => rdT i (FL.mem_xs hb' hx hi)
    · subst hk
      rw [List.getElem?_append_right (Nat.le_refl _), Nat.sub_self] at hb'
      rw [a.blen, List.getElem?_append_right (Nat.le_refl _), Nat.sub_self] at hd'
      simp at hb' hd'
      subst hb' hd'
      exact hb
    · rw [List.getElem?_eq_none (by simp; omega)] at hb'
      cases hb'
  · intro k t c ht hc
    have := a.tn k t c ht hc
    exact ⟨this.1.fr f fun i hi => rdT i (FL.mem_t (L := L) ht (.inl hi)), this.2.fr f fun i hi => rdT i (FL.mem_t (L := L) ht (.inr hi))⟩
  · unfold FL.fp at nd ⊢
    simp only [flatMap_append', List.flatMap_cons, List.flatMap_nil, List.append_nil]
    have hlt' : ∀ i ∈ L.i :: (ids L.bsl ++ (ids L.tsl ++ L.bl.flatMap fun b => [b.j, b.pid])), i < h.length := hlt
    rw [List.nodup_cons, List.nodup_append] at nd
    rw [List.nodup_cons, List.nodup_append]
    refine ⟨?_, ids_nodup _, ?_, ?_⟩
    · intro hm
      have hi := hlt' L.i (by simp)
      simp only [List.mem_append, List.mem_cons, List.not_mem_nil, or_false] at hm
      rcases hm with h1 | h1 | h1 | h1 | h1
      · rcases hs _ h1 with h2 | h2
        · exact nd.1 (List.mem_append_left _ h2)
        · omega
      · exact nd.1 (List.mem_append_right _ (List.mem_append_left _ h1))
      · exact nd.1 (List.mem_append_right _ (List.mem_append_right _ h1))
      · omega
      · omega
    · rw [← List.append_assoc, List.nodup_append]
      refine ⟨nd.2.2.1, by simp; omega, fun x hx y hy => ?_⟩
      have := hlt' x (by simp only [List.mem_cons, List.mem_append] at hx ⊢; exact .inr (.inr hx))
      simp at hy
      omega
    · intro x hx y hy
      rw [← List.append_assoc] at hy
      rcases List.mem_append.1 hy with h2 | h2
      · have h3 := hlt' y (by simp only [List.mem_cons, List.mem_append] at h2 ⊢; exact .inr (.inr h2))
        rcases hs x hx with h1 | h1
        · exact nd.2.2.2 x h1 y h2
        · omega
      · simp at h2
        rcases hs x hx with h1 | h1
        · have := hlt' x (by simp [h1]); omega
        · omega
  · intro i hi hf
    have hfp' := hfp i hf
    unfold FL.rd at hi
    simp only [flatMap_append', List.flatMap_cons, List.flatMap_nil, List.append_nil] at hi
    simp only [List.mem_append] at hi
    have hold : i ∈ L.rd → False := fun h1 => by
      have h2 := hrl i h1
      rcases hfp' with h3 | h3 | h3 | h3
      · exact hsep i h1 h3
      · omega
      · omega
      · omega
    rcases hi with (h1 | h1) | h1
    · exact hold (by unfold FL.rd; rw [List.mem_append]; exact .inl h1)
    · obtain ⟨y, hy, hiy⟩ := List.mem_flatMap.1 h1
      have := hys y hy i hiy
      rcases hfp' with h3 | h3 | h3 | h3
      · have := hlt i h3; omega
      · omega
      · omega
      · omega
    · exact hold (by unfold FL.rd; rw [List.mem_append]; exact .inr h1)

theorem flash_New_L0_ok {i6 i : Nat} {B P S Lf : Nat} (hB : B ≤ 16) (hP : P ≤ 16) (hS : S ≤ 512) {h0 : AH} {K : AH → Prop}
    (hk : ∀ h' L, L.i = i → FRep h' L (newF B B P S Lf) → Fr [] h0 h' → (∀ j, j ∈ L.fp ∨ j ∈ L.rd → h0.length ≤ j) → K h') :
    ∀ (n k : Nat) (h : AH) (L : FL), k + n = B → L.i = i → FRep h L (newF k B P S Lf) → Fr [] h0 h → (∀ j, j ∈ L.fp ∨ j ∈ L.rd → h0.length ≤ j) → h[i6]? = some (.cells [.int .i64 B, .int .i64 P, .int .i64 S, .int .i64 Lf] false) → i6 ∉ L.fp →
      flash_New_L0 (some (i6, 0)) (some (i, 0)) (B : Int) (k : Int) h K
  | 0, k, h, L, hn, hi, a, f, hfr, e6, hnot => by
    refine flash_New_L0.go ?_
    unfold flash_New_L0w
    rw [br_neg (by omega)]
    simp only [AV.beq_self, guardR_true]
    obtain rfl : k = B := by omega
    exact hk h L hi a f hfr
  | n + 1, k, h, L, hn, hi, a, f, hfr, e6, hnot => by
    refine flash_New_L0.go ?_
    unfold flash_New_L0w
    rw [br_pos (by omega)]
    simp only [ob_some, Nat.zero_add, cell_of e6, List.getElem?_cons_zero, List.getElem?_cons_succ, chkInt_int]
    refine need_i (by omega) ?_
    rw [Int.toNat_natCast]
    refine new_i fun i49 h48 e48 f48 l48 => new_i fun i51 h50 e50 f50 l50 => ?_
    have h49 := (List.getElem?_eq_some_iff.1 e48).1
    have h51 := (List.getElem?_eq_some_iff.1 e50).1
    have f50' := f48.trans f50
    have e6' := f50'.kept e6
    simp only [cell_of e6', List.getElem?_cons_zero, List.getElem?_cons_succ, ob_some, chkInt_int]
    have e49 : h50[i49]? = some (.cells ((List.replicate P (none : Option Sl)).map .slice) false) := by
      rw [f50.kept e48, repZero_eq, List.map_replicate]
    refine flash_wipe_ok (xs := List.replicate P none) (n := P) (P := P) (by omega) (by simp) (Nat.le_refl _) (by omega) (by omega) e50 e49 fun ys h59 hyl hyb e59 f59 => ?_
    rw [List.drop_of_length_le (by simp), List.append_nil] at e59
    have hle50 := f50'.len
    have i6lt := (List.getElem?_eq_some_iff.1 e6).1
    have hLi := a.main
    rw [hi] at hLi
    have iLt := (List.getElem?_eq_some_iff.1 hLi).1
    have e33 := f59.keep (f50'.kept hLi) (by simp; omega)
    simp only [ob_some, Nat.zero_add, cell_of e33, List.getElem?_cons_zero, List.getElem?_cons_succ, chkSl_slice]
    refine new_i fun i64 h63 e63 f63 l63 => ?_
    have hs63 : SlAt h63 1 (some ⟨i64, 0, 1, 1, none⟩) [.ptr (some (i51, 0))] := SlAt.made e63 rfl
    have bltb : ∀ q ∈ ids L.bsl, q < h.length := a.bown.lt
    have f59' : Fr [] h h59 := f50'.tr f59 (by simp; omega)
    have f63' := f59'.trans f63
    have oB : Own h63 1 L.bsl (L.bl.map fun b => .ptr (some (b.j, 0))) := a.bown.kept f63'
    have lB : lenO L.bsl = k := by have := oB.slAt.len; simp [a.blen, newF] at this; omega
    refine append_own (bytes := 8) oB (fun K' => aNews_at hs63 (by decide) K') (by simp [lenO]) rfl (by show (lenO L.bsl + 1) * 8 ≤ _; omega) fun s67 h68 o68 f68 i68 => ?_
    have hiB : i ∉ ids L.bsl := by
      have := a.nodup
      unfold FL.fp at this
      rw [List.nodup_cons, hi] at this
      exact fun hm => this.1 (List.mem_append_left _ hm)
    have e33' := f68.keep (f63.kept e33) hiB
    refine put1_i e33' (by simp) fun h70 e70 f70 => ?_
    rw [wrap_i64 (by omega) (by omega)]
    have hle59 := f59'.len
    have hle63 := f63'.len
    have hle68 := f68.len
    have s67n : i ∉ ids s67 := fun hm => by
      rcases i68 i hm with h1 | h1
      · exact hiB h1
      · omega
    have fT : Fr (L.i :: ids L.bsl) h h70 := by
      refine (Fr.tr' f63'.nil f68 fun q hq => .inl (by simp [hq])).tr' f70 fun q hq => .inl ?_
      simp at hq; rw [hq, hi]; simp
    have ysN : ∀ y ∈ ys, ∀ q ∈ slId y, i51 < q ∧ q < h63.length := fun y hy q hq => by
      have h1 := (hyb y hy).2 q hq
      have h2 := SlAt.lt (hyb y hy).1 (by decide) q hq
      have := f63.len
      omega
    have hfr70 : Fr [] h0 h70 := (f.nil.trans fT).fresh fun q hq => hfr q (.inl (by
      unfold FL.fp
      simp only [List.mem_cons, List.mem_append] at hq ⊢
      rcases hq with h1 | h1
      · exact .inl h1
      · exact .inr (.inl h1)))
    have k49 : i49 ∉ L.i :: ids L.bsl := fun hm => by
      rcases List.mem_cons.1 hm with h1 | h1
      · rw [hi] at h1; omega
      · have := bltb _ h1; omega
    have k51 : i51 ∉ L.i :: ids L.bsl := fun hm => by
      rcases List.mem_cons.1 hm with h1 | h1
      · rw [hi] at h1; omega
      · have := bltb _ h1; omega
    have kB : ∀ q, h.length ≤ q → q < h63.length → q ∉ ids L.bsl ∧ q ∉ [i] := fun q h1 h2 => ⟨fun hm => by have := bltb _ hm; omega, by simp; omega⟩
    have ltf63 := f63.len
    have c51 := kB i51 (by have := f48.len; omega) (by have := f59.len; omega)
    have c49 := kB i49 (by omega) (by have := f59.len; have := f50.len; omega)
    have hbr : BRep h70 P S ⟨i51, i49, ys⟩ (newB P S) := by
      refine ⟨f70.keep (f68.keep (f63.kept (f59.keep e50 (by simp; omega))) c51.1) c51.2, f70.keep (f68.keep (f63.kept e59) c49.1) c49.2, hyl, by simp [newB], fun p x l hx hl => ?_⟩
      have hxm := List.mem_of_getElem? hx
      simp only [newB] at hl
      have hl' : l = blankP S := by
        have := List.mem_of_getElem? hl
        exact List.eq_of_mem_replicate this
      subst hl'
      refine ⟨(((hyb x hxm).1.kept f63).fr f68 fun q hq => ?_).fr f70 fun q hq => ?_, by simp [blankP]⟩
      · have := ysN x hxm q hq; exact (kB q (by omega) (by omega)).1
      · have := ysN x hxm q hq; exact (kB q (by omega) (by omega)).2
    have ho70 : Own h70 1 s67 (L.bl.map (fun b => .ptr (some (b.j, 0))) ++ [.ptr (some (i51, 0))]) := o68.fr f70 fun q hq hm => by
      simp at hm; subst hm; exact s67n hq
    have aN := a.addB (N := h63.length) (h' := h70) (by omega) (j := i51) (pid := i49) (ys := ys) (c := newB P S) ⟨by omega, by omega, by have := f59.len; omega⟩ ysN (s := s67) i68 fT (by simpa [newF] using hbr) (by rw [hi, e70]; rfl) ho70
    have eF : ({ newF k B P S Lf with blks := (newF k B P S Lf).blks ++ [newB P S] } : FS) = newF (k + 1) B P S Lf := by
      simp [newF, List.replicate_succ']
    rw [eF] at aN
    have hfp2 : ∀ q, q ∈ FL.fp { L with bsl := s67, bl := L.bl ++ [⟨i51, i49, ys⟩] } → q ∈ L.fp ∨ h.length ≤ q := by
      intro q hq
      unfold FL.fp at hq ⊢
      simp only [List.mem_cons, List.mem_append, flatMap_append', List.flatMap_cons, List.flatMap_nil, List.append_nil, List.not_mem_nil, or_false] at hq ⊢
      rcases hq with h1 | h1 | h1 | h1 | h1
      · exact .inl (.inl h1)
      · rcases i68 q h1 with h2 | h2
        · exact .inl (.inr (.inl h2))
        · exact .inr (by omega)
      · exact .inl (.inr (.inr (.inl h1)))
      · exact .inl (.inr (.inr (.inr h1)))
      · rcases h1 with h1 | h1 <;> exact .inr (by have := f48.len; omega)
    have hlf := f.len
    refine flash_New_L0_ok hB hP hS hk n (k + 1) h70 { L with bsl := s67, bl := L.bl ++ [⟨i51, i49, ys⟩] } (by omega) hi aN hfr70 (fun q hq => ?_) (f70.keep (f68.keep (f63'.kept e6) fun hm => ?_) (by
        simp; rintro rfl; exact hnot (by rw [← hi]; simp [FL.fp]))) fun hm => ?_
    · rcases hq with hq | hq
      · rcases hfp2 q hq with h1 | h1
        · exact hfr q (.inl h1)
        · omega
      · unfold FL.rd at hq
        simp only [flatMap_append', List.flatMap_cons, List.flatMap_nil, List.append_nil, List.mem_append] at hq
        rcases hq with (h1 | h1) | h1
        · exact hfr q (.inr (by unfold FL.rd; rw [List.mem_append]; exact .inl h1))
        · obtain ⟨y, hy, hqy⟩ := List.mem_flatMap.1 h1
          have := ysN y hy q hqy; have := f48.len; omega
        · exact hfr q (.inr (by unfold FL.rd; rw [List.mem_append]; exact .inr h1))
    · exact hnot (by unfold FL.fp; simp [hm])
    · rcases hfp2 i6 hm with h1 | h1
      · exact hnot h1
      · omega

theorem flash_New_ok {B P S Lf : Nat} (hB : 2 ≤ B ∧ B ≤ 16) (hP : 4 ≤ P ∧ P ≤ 16) (hS : 64 ≤ S ∧ S ≤ 512) (hL : 1 ≤ Lf ∧ Lf ≤ 1048576) {h : AH} {K : Option (Nat × Nat) → Int → AH → Prop}
    (hk : ∀ h' L, FRep h' L (newF B B P S Lf) → Fr [] h h' → (∀ j, j ∈ L.fp ∨ j ∈ L.rd → h.length ≤ j) → K (some (L.i, 0)) 0 h') : flash_New (B : Int) (P : Int) (S : Int) (Lf : Int) h K := by
  refine flash_New.go ?_
  unfold flash_Neww
  refine new_i fun i6 h5 e5 f5 l5 => ?_
  simp only [cell_of e5, List.getElem?_cons_zero, List.getElem?_cons_succ, ob_some, chkInt_int]
  refine flash_within_ok ?_
  rw [decide_eq_true (by omega)]
  simp only [br_true, cell_of e5, List.getElem?_cons_zero, List.getElem?_cons_succ, ob_some, chkInt_int]
  refine flash_within_ok ?_
  rw [decide_eq_true (by omega)]
  simp only [Bool.not_true, br_false, cell_of e5, List.getElem?_cons_zero, List.getElem?_cons_succ, ob_some, chkInt_int]
  refine flash_within_ok ?_
  rw [decide_eq_true (by omega)]
  simp only [Bool.not_true, br_false, cell_of e5, List.getElem?_cons_zero, List.getElem?_cons_succ, ob_some, chkInt_int]
  refine flash_within_ok ?_
  rw [decide_eq_true (by omega)]
  simp only [Bool.not_true, br_false]
  refine ob_all e5 rfl ?_
  rw [ints4_eq]
  refine new_i fun i33 h32 e32 f32 l32 => ?_
  have e6 := f32.kept e5
  simp only [cell_of e6, List.getElem?_cons_zero, ob_some, chkInt_int]
  have f32' := f5.trans f32
  have h6 := (List.getElem?_eq_some_iff.1 e5).1
  refine flash_New_L0_ok (h0 := h) hB.2 hP.2 hS.2 (fun h' L hi a f hfr => ?_) B 0 h32 ⟨i33, none, [], none, []⟩ (by omega) rfl ⟨e32, rfl, rfl, rfl, rfl, by simp, by simp, by simp [FL.fp, ids], by simp [FL.rd]⟩ f32' (fun j hj => ?_) e6 (by simp [FL.fp, ids]; omega)
  · have := hk h' L a f hfr
    rw [hi] at this
    exact this
  · have := f5.len
    rcases hj with h1 | h1
    · simp [FL.fp, ids] at h1; omega
    · simp [FL.rd] at h1

end Go.Abs
