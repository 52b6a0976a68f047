/- RegionKills, over the readings. -/
import Derived.Test.YtdpecfeofcibhaaB20
namespace Go.Abs

theorem depotlaw25_RegionKills_ok {h : AH} {x p : Option Sl} {l : List Tri} {pl : List UInt8} (hx : SlAt h 3 x (tri l)) (hp : By h p pl) {K : Bool → AH → Prop} (hk : ∀ h', Fr [] h h' → K true h') : depotlaw25_RegionKills x p h K := by
  refine depotlaw25_RegionKills.go ?_
  unfold depotlaw25_RegionKillsw
  rw [tri_len hx, By.len hp]
  refine br_dec (fun _ => depotlaw25_regions_ok fun h' f => hk h' f) fun h1 => br_dec (fun _ => depotlaw25_regions_ok fun h' f => hk h' f) fun h2 => ?_
  -- the last comparisons
  have tail : ∀ (hh : AH) (a b : Option Sl) (e : Int) (bs : List UInt8) (q1 q2 : Option Sl) (g : Int) (ps : List Tri), Fr [] h hh → By hh a bs → By hh b bs → SlAt hh 3 q1 (tri ps) → SlAt hh 3 q2 (tri ps) → ps.length < 100000 →
      depotref03_Same a b hh fun r34 h33 => br r34 (br (e == e) (depotref25_Places q1 q2 h33 fun r37 h36 => br r37 (br (g == g) (depotlaw25_regions h36 fun r40 h39 => K r40 h39) (K false h36)) (K false h36)) (K false h33)) (K false h33) := by
    intro hh a b e bs q1 q2 g ps f ha hb h1 h2 hl
    refine depotref03_Same_ok ha hb ?_
    rw [decide_eq_true rfl, br_true, br_eq rfl]
    refine depotref25_Places_ok hl h1 h2 ?_
    rw [decide_eq_true rfl, br_true, br_eq rfl]
    exact depotlaw25_regions_ok fun h' f' => hk h' (f.trans f')
  have hpl : (placesOf pl).length < 100000 := by unfold placesOf; simp; omega
  -- both Kills of the payload, and what comes behind them
  have kills : ∀ (h14 : AH) (J : Option Sl → Int → Option Sl → Int → AH → Prop), Fr [] h h14 →
      (∀ q1 q2 (g : Int) ps hh, Fr [] h14 hh → SlAt hh 3 q1 (tri ps) → SlAt hh 3 q2 (tri ps) → ps.length < 100000 → J q1 g q2 g hh) →
      region_Kills p h14 fun r_019 r_120 h18 => depotref25_Kills p h18 fun r_023 r_124 h22 => J r_019 r_120 r_023 r_124 h22 := by
    intro h14 J f hJ
    have hp14 := hp.kept f
    refine region_Kills_ok (by omega) hp14 ⟨fun c1 c2 x1 h18 o1 f1 i1 => ?_, fun c h18 f1 => ?_⟩
    · refine depotref25_Kills_ok (by omega) (hp14.kept f1) ⟨fun _ _ x2 h22 o2 f2 i2 => ?_, fun c => absurd ⟨c1, c2⟩ c⟩
      exact hJ x1 x2 0 _ h22 (f1.trans f2) (o1.slAt.kept f2) o2.slAt hpl
    · refine depotref25_Kills_ok (by omega) (hp14.kept f1) ⟨fun c1 c2 => absurd ⟨c1, c2⟩ c, fun _ h22 f2 => ?_⟩
      exact hJ none none 5 [] h22 (f1.trans f2) rfl rfl (by decide)
  refine region_KillLoad_ok (by omega) hx ⟨fun hv a h10 oa fa ia => ?_, fun hv h10 fa => ?_⟩
  · refine depotref25_KillLoad_ok (by omega) (hx.kept fa) ⟨fun _ b h14 ob fb ib => ?_, fun hv' => by rw [hv] at hv'; cases hv'⟩
    have f14 := fa.trans fb
    refine kills h14 (fun r_019 r_120 r_023 r_124 h22 => _) f14 fun q1 q2 g ps h22 f22 s1 s2 hl => ?_
    rw [br_eq rfl]
    have f22' := f14.trans f22
    have bl : (killBytes l).length < 100000 := by rw [killBytes_length]; omega
    have ba : By h22 a (killBytes l) := oa.slAt.kept (fb.trans f22)
    have bb : By h22 b (killBytes l) := ob.slAt.kept f22
    have ekb := placesOf_killBytes hv
    refine region_Kills_ok bl ba ⟨fun _ _ x1 h26 o1 f1 i1 => ?_, fun c => absurd ⟨by rw [killBytes_length]; omega, by rw [ekb]; exact hv⟩ c⟩
    rw [br_ne_eq rfl]
    rw [ekb] at o1
    refine depotref25_Places_ok (by omega) o1.slAt (hx.kept (f22'.trans f1)) ?_
    rw [decide_eq_true rfl]
    simp only [Bool.not_true, br_false]
    exact tail h26 a b 0 _ q1 q2 g ps (f22'.trans f1) (ba.kept f1) (bb.kept f1) (s1.kept f1) (s2.kept f1) hl
  · refine depotref25_KillLoad_ok (by omega) (hx.kept fa) ⟨fun hv' => (by rw [hv] at hv'; cases hv'), fun _ h14 fb => ?_⟩
    have f14 := fa.trans fb
    refine kills h14 (fun r_019 r_120 r_023 r_124 h22 => _) f14 fun q1 q2 g ps h22 f22 s1 s2 hl => ?_
    rw [br_neq (by decide)]
    exact tail h22 none none 3 [] q1 q2 g ps (f14.trans f22) rfl rfl s1 s2 hl

end Go.Abs
