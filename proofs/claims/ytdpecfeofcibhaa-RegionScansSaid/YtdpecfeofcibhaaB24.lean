/- RegionScans, over the readings. -/
import Derived.Test.YtdpecfeofcibhaaB23
namespace Go.Abs

theorem eachS_len (ls : List (List UInt8)) (e : Int) (last : Nat) : ∀ n p, (eachS ls e last n p).length ≤ n
  | 0, _ => by simp [eachS]
  | n + 1, p => by
    unfold eachS
    split
    · split
      · have := eachS_len ls e last n (p + ‹Tri›.2.2.toNat); simp; omega
      · have := eachS_len ls e last n (p + 1); omega
    · simp
theorem sealItems_len {p : List UInt8} {at_ : Int} {l : List Tri} (h : sealItems p at_ = some l) : l.length ≤ p.length := by
  unfold sealItems at h
  split at h
  · cases h; simp; omega
  · cases h
theorem lastTo_le (ls : List (List UInt8)) : ∀ k, lastTo ls k ≤ k
  | 0 => by simp [lastTo]
  | k + 1 => by
    have := lastTo_le ls k
    unfold lastTo; split <;> omega
theorem scanS_len {ls : List (List UInt8)} (hll : ∀ l ∈ ls, l.length < 90000) {e : Int} {b : Bool} {l : List Tri} (h : scanS ls = some (e, b, l)) : l.length < 100000 := by
  unfold scanS at h
  split at h
  · cases h
  rename_i l0 r
  generalize hg : (l0 :: r).take 16 = l16 at h
  have h16 : l16.length ≤ 16 := by rw [← hg]; simp; omega
  have hn0 : 0 < l16.length := by rw [← hg]; simp
  have hlast := lastTo_lt l16 l16.length hn0
  have hsub : ∀ l ∈ l16, l ∈ l0 :: r := fun l h => by rw [← hg] at h; exact List.mem_of_mem_take h
  split at h
  · split at h
    · rename_i L hs
      cases h
      split at hs
      · unfold scanSeal at hs
        split at hs
        · have h1 := sealItems_len hs
          have h2 := pLoad_len (l16.getD (lastTo l16 l16.length) [])
          have h3 : l16.getD (lastTo l16 l16.length) [] ∈ l0 :: r := by
            rw [getD_of (List.getElem?_eq_getElem hlast)]
            exact hsub _ (List.getElem_mem hlast)
          have := hll _ h3
          omega
        · cases hs
      · cases hs
    · cases h
      have := eachS_len l16 (ifOk l0 (pEp l0)) (lastTo l16 l16.length) (lastTo l16 l16.length) 1
      omega
  · cases h
theorem partsS_len {ls : List (List UInt8)} {pg pgs : Int} : ∀ {n i : Nat} {L : List (List UInt8)}, partsS ls pg pgs n i = some L → L.length ≤ n
  | 0, i, L, h => by
    unfold partsS at h
    split at h
    · cases h
    · cases h; simp
  | n + 1, i, L, h => by
    unfold partsS at h
    split at h
    · split at h
      · cases h
      · split at h
        · cases hp : partsS ls pg pgs n (i + 1) with
          | none => rw [hp] at h; cases h
          | some M => rw [hp] at h; cases h; have := partsS_len hp; simp; omega
        · cases h
    · cases h; simp

theorem depotlaw25_RegionScans_ok {h : AH} {x : Option Sl} {px : List (Option Sl)} {ls : List (List UInt8)} (hm : Mat h x px ls) {kind page pages : Int} {K : Bool → AH → Prop} (hk : ∀ h', Fr [] h h' → K true h') : depotlaw25_RegionScans x kind page pages h K := by
  refine depotlaw25_RegionScans.go ?_
  unfold depotlaw25_RegionScansw
  refine new_i fun i6 h5 e6 f5 l6 => ?_
  refine depotref24_Few_ok (most := 20) (hm.kept f5) (by decide) ?_ fun hn hl => ?_
  · simp only [Bool.not_false, br_true]; exact depotlaw25_regions_ok fun h' f => hk h' (f5.trans f)
  simp only [Bool.not_true, br_false]
  have hll : ∀ l ∈ ls, l.length < 90000 := fun l hm' => by have := hl l hm'; omega
  have hll' : ∀ l ∈ ls, l.length < 100000 := fun l hm' => by have := hll l hm'; omega
  have b6 := (List.getElem?_eq_some_iff.1 e6).1
  -- behind the parts
  have tail2 : ∀ (hh : AH) (a b : Option Sl) (pa pb : List (Option Sl)) (L : List (List UInt8)), Fr [] h hh → Mat hh a pa L → Mat hh b pb L → L.length < 100000 →
      depotref24_Same a b hh fun r63 h62 => br r63 (depotlaw25_regions h62 fun r66 h65 => K r66 h65) (K false h62) := by
    intro hh a b pa pb L f ha hb hL
    refine depotref24_Same_ok ha hb hL ?_
    rw [decide_eq_true rfl, br_true]
    exact depotlaw25_regions_ok fun h' f' => hk h' (f.trans f')
  -- behind the scans
  have tail : ∀ (hh : AH) (i20 i29 : Nat) (e : Int) (b ok : Bool) (x1 x2 : Option Sl) (l : List Tri), Fr [] h5 hh → hh[i20]? = some (.cells [.int .i64 e, .bool b, .slice x1] false) → hh[i29]? = some (.cells [.int .i64 e, .bool b, .slice x2] false) →
      SlAt hh 3 x1 (tri l) → SlAt hh 3 x2 (tri l) → l.length < 100000 →
      hold hh 0 fun h31 => ob (AH.cell h31 i20 0) fun v32 => chkInt .i64 v32 fun n33 => ob (AH.cell h31 i29 0) fun v34 => chkInt .i64 v34 fun n35 => br (n33 == n35) (
        ob (AH.cell h31 i20 1) fun v36 => chkBool v36 fun b37 => ob (AH.cell h31 i29 1) fun v38 => chkBool v38 fun b39 => br (b37 == b39) (
          ob (AH.cell h31 i20 2) fun v40 => chkSl v40 fun x41 => ob (AH.cell h31 i29 2) fun v42 => chkSl v42 fun x43 => depotref25_Items x41 x43 h31 fun r46 h45 => br r46 (
            br (ok == ok) (
              ob (AH.cellsAt h45 i6 0 3) fun cs47 => ints3 .i64 cs47 fun n48 n49 n50 => ob (AH.cellsAt h45 i6 0 3) fun cs51 => ints3 .i64 cs51 fun n52 n53 n54 =>
              region_Parts x n48 n49 n50 h45 fun r57 h56 => guardR (Req.ok h56 (.cells i6 0 3 [.int .i64 n52, .int .i64 n53, .int .i64 n54]) && true) <|
              depotref25_Parts x n52 n53 n54 h56 fun r60 h59 => depotref24_Same r57 r60 h59 fun r63 h62 => br r63 (depotlaw25_regions h62 fun r66 h65 => K r66 h65) (K false h62)
            ) (K false h45)) (K false h45)) (K false h31)) (K false h31) := by
    intro hh i20 i29 e b ok x1 x2 l f e20 e29 s1 s2 hlen
    refine hold0_i ?_
    have e6' := f.kept e6
    simp only [cell_of e20, cell_of e29, List.getElem?_cons_zero, List.getElem?_cons_succ, ob_some, chkInt_int, chkBool_bool, chkSl_slice]
    rw [br_eq rfl]
    rw [show (b == b) = true by simp, br_true]
    refine depotref25_Items_ok hlen s1 s2 ?_
    rw [decide_eq_true rfl, br_true, show (ok == ok) = true by simp, br_true]
    refine ob_all e6' rfl ?_
    simp only [ints3_eq]
    refine ob_all e6' rfl ?_
    simp only [ints3_eq]
    have f' := f5.trans f
    have hmh := hm.kept f'
    have rq : ∀ h56, Fr [] hh h56 → (Req.ok h56 (.cells i6 0 3 [.int .i64 kind, .int .i64 page, .int .i64 pages]) && true) = true := fun h56 f56 => by
      rw [Bool.and_true]
      exact req_cells (cellsAt_all (f56.kept e6') rfl)
    refine region_Parts_ok (by omega) hll' hmh ⟨fun hN h56 f56 => guardR_i (rq _ f56) ?_, fun L hL a pa h56 m56 f56 => guardR_i (rq _ f56) ?_⟩
    · refine depotref25_Parts_ok (by omega) hll' (hmh.kept f56) ⟨fun _ h59 f59 => ?_, fun L hL => by rw [hN] at hL; cases hL⟩
      exact tail2 h59 none none [] [] [] ((f'.trans f56).trans f59) (MatO.nil h59 h59).mat (MatO.nil h59 h59).mat (by decide)
    · have hLl := partsS_len hL
      refine depotref25_Parts_ok (by omega) hll' (hmh.kept f56) ⟨fun hN => (by rw [hN] at hL; cases hL), fun L2 hL2 c pc h59 m59 f59 => ?_⟩
      rw [hL] at hL2
      cases hL2
      exact tail2 h59 a c pa pc L ((f'.trans f56).trans f59) (m56.mat.kept f59) m59.mat (by omega)
  refine region_Scan_ok hll' (hm.kept f5) (by omega) ⟨fun hN h14 f14 => ?_, fun e b l hS x1 h14 y14 f14 i14 => ?_⟩
  · refine new_i fun i20 h19 e20 f19 l20 => put_i e20 rfl fun h21 e21 f21 => ?_
    have f21' : Fr [] h5 h21 := (f14.trans f19).tr f21 (by have := f14.len; simp; omega)
    refine depotref25_Scan_ok hll' (hm.kept (f5.trans f21')) (by omega) ⟨fun _ h23 f23 => ?_, fun e b l hS => by rw [hN] at hS; cases hS⟩
    refine new_i fun i29 h28 e29 f28 l29 => put_i e29 rfl fun h30 e30 f30 => ?_
    have f30' : Fr [] h21 h30 := (f23.trans f28).tr f30 (by have := f23.len; simp; omega)
    exact tail h30 i20 i29 0 false false none none [] (f21'.trans f30') (f30'.kept e21) e30 rfl rfl (by decide)
  · refine new_i fun i20 h19 e20 f19 l20 => put_i e20 rfl fun h21 e21 f21 => ?_
    have f1421 : Fr [] h14 h21 := f19.tr f21 (by simpa using l20)
    have f21' : Fr [] h5 h21 := f14.trans f1421
    refine depotref25_Scan_ok hll' (hm.kept (f5.trans f21')) (by omega) ⟨fun hN => (by rw [hN] at hS; cases hS), fun e2 b2 l2 hS2 x2 h23 y23 f23 i23 => ?_⟩
    rw [hS] at hS2
    cases hS2
    refine new_i fun i29 h28 e29 f28 l29 => put_i e29 rfl fun h30 e30 f30 => ?_
    have f2330 : Fr [] h23 h30 := f28.tr f30 (by simpa using l29)
    have f30' : Fr [] h21 h30 := f23.trans f2330
    exact tail h30 i20 i29 e b true x1 x2 l (f21'.trans f30') (f30'.kept e21) e30 ((y14.kept f1421).kept f30') (y23.kept f2330) (scanS_len hll hS)

end Go.Abs
