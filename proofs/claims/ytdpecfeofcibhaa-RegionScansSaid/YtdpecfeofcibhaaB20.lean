/- The page's example of the statements on regions holds. -/
import Derived.Test.YtdpecfeofcibhaaB19
namespace Go.Abs

/-! The example's values, by the kernel -/

def exF0 : FS := newF 2 2 8 64 9
def exF1 : FS := (exF0.open_ 0 7).2
def exF2 : FS := (exF1.append 0 7 1 2 [[5]]).2
def exF3 : FS := (exF2.append 0 7 2 2 [[6], [7]]).2
def exL : List Tri := [(2, 1, 1), (2, 2, 2)]
def exF4 : FS := (exF3.sealF 0 7 4 exL).2
theorem ex1 : (exF0.open_ 0 7).1 = 0 := by decide +kernel
theorem ex2 : (exF1.append 0 7 1 2 [[5]]).1 = 0 := by decide +kernel
theorem ex3 : (exF2.append 0 7 2 2 [[6], [7]]).1 = 0 := by decide +kernel
theorem ex4 : scanS (exF3.load 0) = some (7, false, exL) := by decide +kernel
theorem ex5 : (exF3.sealF 0 7 4 exL).1 = 0 := by decide +kernel
theorem ex6 : scanS (exF4.load 0) = some (7, true, exL) := by decide +kernel
theorem ex7 : partsS (exF4.load 0) 2 2 9 0 = some [[6], [7]] := by decide +kernel
theorem ex8 : exF3.findE 0 0 = 0 ∧ exF4.findE 0 0 = 0 := by decide +kernel
theorem ex9 : ([(1, 2, 3)] : List Tri).all rightB = true := by decide +kernel
theorem ex10 : (exF3.load 0).length = 8 ∧ (exF4.load 0).length = 8 ∧ (∀ l ∈ exF3.load 0, l.length < 100000) ∧ (∀ l ∈ exF4.load 0, l.length < 100000) := by decide +kernel

theorem exW (F : FS) (h : F.blks.length = F.B ∧ F.B = 2 ∧ F.P = 8 ∧ F.S = 64 ∧ F.after = 0) : FWf F :=
  ⟨h.1, by rw [h.2.1]; decide, by rw [h.2.2.1]; decide, by rw [h.2.2.2.1]; decide, by rw [h.2.2.2.2]; decide⟩
theorem exw0 : FWf exF0 ∧ exF0.progOk := ⟨exW _ (by decide +kernel), (by decide +kernel : exF0.after = 0)⟩
theorem exw1 : FWf exF1 ∧ exF1.progOk := ⟨exW _ (by decide +kernel), (by decide +kernel : exF1.after = 0)⟩
theorem exw2 : FWf exF2 ∧ exF2.progOk := ⟨exW _ (by decide +kernel), (by decide +kernel : exF2.after = 0)⟩
theorem exw3 : FWf exF3 ∧ exF3.progOk := ⟨exW _ (by decide +kernel), (by decide +kernel : exF3.after = 0)⟩
theorem exw4 : FWf exF4 ∧ exF4.progOk := ⟨exW _ (by decide +kernel), (by decide +kernel : exF4.after = 0)⟩

theorem depotref25_Items_L0_ok {A B : List Tri} (hl : A.length = B.length) (hA : A.length < 100000) {x y : Option Sl} {h : AH} (hx : SlAt h 3 x (tri A)) (hy : SlAt h 3 y (tri B)) {Kr K0 : AV → AH → Prop} (h1 : A ≠ B → Kr (.bool false) h) (h2 : A = B → K0 .bot h) :
    ∀ (n k : Nat), k + n = A.length → A.take k = B.take k → depotref25_Items_L0 x y (k : Int) h Kr K0
  | 0, k, hn, he => by
    refine depotref25_Items_L0.go ?_
    unfold depotref25_Items_L0w
    rw [tri_len hx, br_neg (by omega)]
    rw [List.take_of_length_le (by omega), List.take_of_length_le (by omega)] at he
    exact h2 he
  | n + 1, k, hn, he => by
    have hlt : k < A.length := by omega
    have hlt2 : k < B.length := by omega
    have lx := tri_len hx
    have ly := tri_len hy
    obtain ⟨s, rfl⟩ : ∃ s, x = some s := by
      cases x with
      | none => simp [lenO] at lx; omega
      | some s => exact ⟨s, rfl⟩
    obtain ⟨t, rfl⟩ : ∃ s, y = some s := by
      cases y with
      | none => simp [lenO] at ly; omega
      | some s => exact ⟨s, rfl⟩
    refine depotref25_Items_L0.go ?_
    unfold depotref25_Items_L0w
    rw [lx, br_pos (by omega)]
    refine hold0_i ?_
    simp only [ob_some]
    refine tri_i hx k rfl hlt (tri_i hy k rfl hlt2 ?_)
    rw [wrap_i64 (by omega) (by omega)]
    by_cases hc : A[k] = B[k]
    · have e : (A[k].1 == B[k].1 && (A[k].2.1 == B[k].2.1 && (A[k].2.2 == B[k].2.2 && true))) = true := by rw [hc]; simp
      rw [e]
      refine depotref25_Items_L0_ok hl hA hx hy h1 h2 n (k + 1) (by omega) ?_
      rw [List.take_add_one, List.take_add_one, he, List.getElem?_eq_getElem hlt, List.getElem?_eq_getElem hlt2, hc]
    · have e : (A[k].1 == B[k].1 && (A[k].2.1 == B[k].2.1 && (A[k].2.2 == B[k].2.2 && true))) = false := by
        rw [← Bool.not_eq_true]; intro h; simp at h; exact hc (Prod.ext h.1 (Prod.ext h.2.1 h.2.2))
      rw [e]
      refine h1 fun hab => hc ?_
      subst hab; rfl

theorem depotref25_Items_ok {A B : List Tri} (hA : A.length < 100000) {x y : Option Sl} {h : AH} (hx : SlAt h 3 x (tri A)) (hy : SlAt h 3 y (tri B)) {K : Bool → AH → Prop} (hk : K (decide (A = B)) h) : depotref25_Items x y h K := by
  refine depotref25_Items.go ?_
  unfold depotref25_Itemsw
  rw [tri_len hx, tri_len hy]
  refine br_ine (fun hne => ?_) fun heq => ?_
  · rwa [decide_eq_false (fun h => hne (by rw [h]))] at hk
  · refine depotref25_Items_L0_ok (by omega) hA hx hy (fun h => ?_) (fun h => ?_) A.length 0 (by omega) (by simp)
    · rw [decide_eq_false h] at hk; exact hk
    · rw [decide_eq_true h] at hk; exact hk

theorem depotlaw25_device_ok {h : AH} {K : Int → Int → Int → Int → AH → Prop} (hk : ∀ h', Fr [] h h' → K 2 8 64 9 h') : depotlaw25_device h K := by
  refine depotlaw25_device.go ?_
  unfold depotlaw25_devicew
  refine new_i fun i2 h1 e1 f1 l1 => put_i e1 rfl fun h3 e3 f3 => ob_all e3 rfl ?_
  rw [ints4_eq]
  exact hk h3 (f1.tr f3 (by simpa using l1))

theorem depotlaw25_regions_ok {h : AH} {K : Bool → AH → Prop} (hk : ∀ h', Fr [] h h' → K true h') : depotlaw25_regions h K := by
  refine depotlaw25_regions.go ?_
  unfold depotlaw25_regionsw
  refine depotlaw25_device_ok fun h2 f2 => ?_
  refine flash_New_ok (B := 2) (P := 8) (S := 64) (Lf := 9) (by decide) (by decide) (by decide) (by decide) fun h8 L0 r8 f8 n8 => ?_
  rw [br_ne_eq rfl]
  have a0 : FRep h8 L0 exF0 := r8
  have f8' := f2.trans f8
  have lt2 := f2.len
  refine region_Open_ok a0 exw0.1 exw0.2 fun h12 L1 st1 => ?_
  have g1 : Fr [] h h12 := f8'.tr st1.fr fun q hq => by have := n8 q (.inl hq); omega
  have a1 : FRep h12 L1 exF1 := st1.rep
  have p1 : ∀ q ∈ L1.fp, h.length ≤ q := fun q hq => (st1.newf q hq).elim (fun h1 => by have := n8 q (.inl h1); omega) fun h1 => by have := f8'.len; omega
  rw [← st1.i]
  refine new_i fun i15 h14 e15 f14 l15 => new_i fun i17 h16 e17 f16 l17 => ?_
  have f16' := f14.trans f16
  have b15 := (List.getElem?_eq_some_iff.1 e15).1
  have b17 := (List.getElem?_eq_some_iff.1 e17).1
  have m1 : Mat h16 (some ⟨i17, 0, 1, 1, none⟩) [some ⟨i15, 0, 1, 1, none⟩] [[5]] := ⟨SlAt.made e17 rfl, SlAt.made (f16.kept e15) rfl, trivial⟩
  have a1' := a1.kept f16'
  have hl16 := f16.len
  have s15 : Safe h16 L1 (some ⟨i15, 0, 1, 1, none⟩) := fun i hi => by simp [slId] at hi; subst hi; exact ⟨fun hm => by have := a1.fp_lt _ hm; omega, by omega⟩
  have hl14 := f14.len
  have s17 : Safe h16 L1 (some ⟨i17, 0, 1, 1, none⟩) := fun i hi => by simp [slId] at hi; subst hi; exact ⟨fun hm => by have := a1.fp_lt _ hm; omega, by omega⟩
  refine region_Append_ok a1' exw1.1 exw1.2 m1 (by simpa using s15) s17 (by decide) (by simp) fun h19 L2 st2 => ?_
  have g2 : Fr [] h h19 := (g1.trans f16').tr st2.fr p1
  have a2 : FRep h19 L2 exF2 := st2.rep
  have p2 : ∀ q ∈ L2.fp, h.length ≤ q := fun q hq => (st2.newf q hq).elim (p1 q) fun h1 => by have := (g1.trans f16').len; omega
  rw [← st2.i]
  refine new_i fun i22 h21 e22 f21 l22 => new_i fun i24 h23 e24 f23 l24 => new_i fun i26 h25 e26 f25 l26 => ?_
  have f25' := (f21.trans f23).trans f25
  have b22 := (List.getElem?_eq_some_iff.1 e22).1
  have b24 := (List.getElem?_eq_some_iff.1 e24).1
  have b26 := (List.getElem?_eq_some_iff.1 e26).1
  have m2 : Mat h25 (some ⟨i26, 0, 2, 2, none⟩) [some ⟨i22, 0, 1, 1, none⟩, some ⟨i24, 0, 1, 1, none⟩] [[6], [7]] := ⟨SlAt.made e26 rfl, SlAt.made (f25.kept (f23.kept e22)) rfl, SlAt.made (f25.kept e24) rfl, trivial⟩
  have a2' := a2.kept f25'
  have hl21 := f21.len
  have hl23 := f23.len
  have hl25 := f25.len
  have safe2 : ∀ j n c, h19.length ≤ j → j < h25.length → Safe h25 L2 (some ⟨j, 0, n, c, none⟩) := fun j n c h1 h2 i hi => by
    have := slId_ids i hi
    simp [ids] at this; subst this
    exact ⟨fun hm => by have := a2.fp_lt _ hm; omega, h2⟩
  refine region_Append_ok a2' exw2.1 exw2.2 m2 (fun y hy => by
    simp at hy
    rcases hy with h1 | h1
    · subst h1; exact safe2 _ _ _ (by omega) (by omega)
    · subst h1; exact safe2 _ _ _ (by omega) (by omega)) (safe2 _ _ _ (by omega) (by omega)) (by decide) (by simp) fun h28 L3 st3 => ?_
  have g3 : Fr [] h h28 := (g2.trans f25').tr st3.fr p2
  have a3 : FRep h28 L3 exF3 := st3.rep
  have p3 : ∀ q ∈ L3.fp, h.length ≤ q := fun q hq => (st3.newf q hq).elim (p2 q) fun h1 => by have := (g2.trans f25').len; omega
  rw [← st3.i]
  refine region_Load_ok a3 exw3.1 (fun _ x32 xs32 h31 m32 f31 i32 j32 => ?_) (fun hne => absurd ex8.1 hne)
  refine region_Scan_ok ex10.2.2.1 m32 (by rw [ex10.1]; decide) ⟨fun hn => (by rw [ex4] at hn; cases hn), fun e s l hs x38 h35 y38 f35 i38 => ?_⟩
  rw [ex4] at hs
  cases hs
  refine new_i fun i41 h40 e41 f40 l41 => put_i e41 rfl fun h42 e42 f42 => ?_
  have f35' := f31.trans f35
  have f42' : Fr [] h28 h42 := (f35'.trans f40).tr f42 (by have := f35'.len; simp; omega)
  have f4035 : Fr [] h35 h42 := f40.tr f42 (by simpa using l41)
  simp only [cell_of e42, List.getElem?_cons_zero, List.getElem?_cons_succ, ob_some, chkSl_slice]
  have y42 := y38.kept f4035
  have a3' := a3.kept f42'
  have g42 := g3.trans f42'
  have hl31 := f31.len
  have hl35 := f35'.len
  have b41 := (List.getElem?_eq_some_iff.1 e42).1
  have o41 : Out h42 L3 i41 := Out.new a3 (by omega) b41
  have n38 : ∀ q ∈ slId x38, q ∉ L3.fp := fun q hq hm => by have := i38 q (slId_ids q hq); have := a3.fp_lt q hm; omega
  refine region_Seal_ok a3' exw3.1 exw3.2 y42 (by decide) fun h46 L4 st4 => ?_
  have g4 : Fr [] h h46 := g42.tr st4.fr p3
  have a4 : FRep h46 L4 exF4 := st4.rep
  have e46 := st4.fr.keep e42 o41.fp
  have y46 := y42.fr st4.fr n38
  rw [← st4.i]
  refine region_Load_ok a4 exw4.1 (fun _ x50 xs50 h49 m50 f49 i50 j50 => ?_) (fun hne => absurd ex8.2 hne)
  refine region_Scan_ok ex10.2.2.2 m50 (by rw [ex10.2.1]; decide) ⟨fun hn => (by rw [ex6] at hn; cases hn), fun e s l hs x56 h53 y56 f53 i56 => ?_⟩
  rw [ex6] at hs
  cases hs
  refine new_i fun i59 h58 e59 f58 l59 => put_i e59 rfl fun h60 e60 f60 => ?_
  have f5360 : Fr [] h53 h60 := f58.tr f60 (by simpa using l59)
  have f60' : Fr [] h46 h60 := (f49.trans f53).trans f5360
  have m60 := m50.kept (f53.trans f5360)
  have n50 : (exF4.load 0).length + 1 = 9 := by rw [ex10.2.1]
  refine region_Parts_ok (by rw [ex10.2.1]; decide) ex10.2.2.2 m60 ⟨fun hn => (by rw [n50, ex7] at hn; cases hn), fun Lp hLp x63 xs63 h62 m63 f62 => ?_⟩
  rw [n50, ex7] at hLp
  cases hLp
  refine new_i fun i65 h64 e65 f64 l65 => ?_
  refine region_KillLoad_ok (L := [(1, 2, 3)]) (by decide) (SlAt.made e65 rfl) ⟨fun _ x68 h67 o68 f67 i68 => ?_, fun hb => (by rw [ex9] at hb; cases hb)⟩
  have ekb : placesOf (killBytes [(1, 2, 3)]) = [(1, 2, 3)] := placesOf_killBytes ex9
  have ekl : (killBytes [(1, 2, 3)]).length = 6 := by rw [killBytes_length]; rfl
  refine region_Kills_ok (by rw [ekl]; decide) o68.slAt ⟨fun _ _ x72 h71 o72 f71 i72 => ?_, fun hb => absurd ⟨by rw [ekl], by rw [ekb]; exact ex9⟩ hb⟩
  rw [ekb] at o72
  have f71' : Fr [] h60 h71 := (f62.trans f64).trans (f67.trans f71)
  have e71 := f71'.kept e60
  have e41' := f71'.kept (f60'.kept e46)
  have y38' := y46.kept (f60'.trans f71')
  have y56' := y56.kept (f5360.trans f71')
  have m71 := m63.mat.kept (f64.trans (f67.trans f71))
  have lx56 := tri_len y56'
  have b68 : lenO x68 = 6 := by have := o68.slAt.len; rw [bys_length, ekl] at this; omega
  have b72 : lenO x72 = 1 := tri_len o72.slAt
  rw [br_eq (show (exF0.open_ 0 7).1 = 0 from ex1), br_eq (show (exF1.append 0 7 1 2 [[5]]).1 = 0 from ex2), br_eq (show (exF2.append 0 7 2 2 [[6], [7]]).1 = 0 from ex3), br_eq (show (exF3.sealF 0 7 4 exL).1 = 0 from ex5), br_eq rfl, br_eq rfl]
  simp only [br_true, cell_of e41', cell_of e71, List.getElem?_cons_zero, List.getElem?_cons_succ, ob_some, chkBool_bool, chkInt_int, chkSl_slice, Bool.not_false]
  rw [br_eq rfl, lx56, br_eq (by decide)]
  refine depotref25_Items_ok (by decide) y38' y56' ?_
  simp only [decide_true, br_true]
  have l63 : lenO x63 = 2 := m71.len
  rw [l63, br_eq rfl]
  obtain ⟨s63, rfl⟩ : ∃ s, x63 = some s := by
    cases x63 with
    | none => simp [lenO] at l63
    | some s => exact ⟨s, rfl⟩
  simp only [ob_some]
  refine mat_i m71 1 rfl (by decide) fun y hy hby => ?_
  have ly : lenO y = 1 := By.len hby
  rw [ly, br_eq rfl]
  refine mat_i m71 1 rfl (by decide) fun z hz hbz => ?_
  obtain ⟨sz, rfl⟩ : ∃ s, z = some s := by
    have := By.len hbz
    cases z with
    | none => simp [lenO] at this
    | some s => exact ⟨s, rfl⟩
  simp only [ob_some]
  refine byte_i hbz 0 rfl (by decide) ?_
  rw [br_eq (by decide), b68, br_eq (by decide), b72, br_eq (by decide)]
  obtain ⟨s72, rfl⟩ : ∃ s, x72 = some s := by
    cases x72 with
    | none => simp [lenO] at b72
    | some s => exact ⟨s, rfl⟩
  simp only [ob_some]
  have h72 : s72.len = 1 := b72
  refine need_i (by omega) ?_
  have c72 : h71.cell s72.id (s72.off + 2) = some (.int .i64 3) := o72.slAt.at_ (by decide)
  refine ob_i c72 ?_
  rw [chkInt_int]
  exact hk h71 ((g4.trans f60').trans f71')

end Go.Abs
