/- Kills: both texts. -/
import Derived.Test.YtdpecfeofcibhaaB9
import Derived.Test.YtdpecfeofcibhaaGS1
import Derived.Test.YtdpecfeofcibhaaGS0
import Derived.Test.YtdpecfeofcibhaaGK0
namespace Go.Abs

abbrev Tri := Int × Int × Int
/-- The cells of structs of three integers. -/
def tri (L : List Tri) : List AV := L.flatMap fun a => [.int .i64 a.1, .int .i64 a.2.1, .int .i64 a.2.2]
@[simp] theorem tri_length (L : List Tri) : (tri L).length = L.length * 3 := by
  unfold tri
  induction L with
  | nil => rfl
  | cons a L ih => rw [List.flatMap_cons, List.length_append, ih]; simp; omega
theorem tri_append (a b : List Tri) : tri (a ++ b) = tri a ++ tri b := by simp [tri]
theorem tri_scal (L : List Tri) : (tri L).all AV.scal = true := by
  rw [List.all_eq_true]
  intro x hx
  obtain ⟨a, _, h⟩ := List.mem_flatMap.1 hx
  simp at h
  rcases h with h | h | h <;> subst h <;> rfl
theorem tri_drop : ∀ (L : List Tri) (k : Nat) (hk : k < L.length), ((tri L).drop (k * 3)).take 3 = [.int .i64 L[k].1, .int .i64 L[k].2.1, .int .i64 L[k].2.2]
  | a :: L, 0, _ => rfl
  | a :: L, k + 1, hk => by
    have := tri_drop L k (by simpa using hk)
    rw [show (k + 1) * 3 = k * 3 + 1 + 1 + 1 by omega]
    exact this
theorem tri_inj : ∀ {a b : List Tri}, tri a = tri b → a = b
  | [], [], _ => rfl
  | [], _ :: _, h => by simp [tri] at h
  | _ :: _, [], h => by simp [tri] at h
  | (x, y, z) :: a, (x', y', z') :: b, h => by
    simp only [tri, List.flatMap_cons, List.cons_append, List.nil_append, List.cons.injEq, AV.int.injEq, true_and] at h
    obtain ⟨rfl, rfl, rfl, h⟩ := h
    rw [tri_inj (a := a) (b := b) h]

/-- A slice of such structs: one of them. -/
theorem tri_i {h : AH} {s : Sl} {L : List Tri} (a : SlAt h 3 (some s) (tri L)) {i : Int} (k : Nat) (hi : i = k) (hk : k < L.length) {K : Int → Int → Int → Prop} (hK : K L[k].1 L[k].2.1 L[k].2.2) :
    need ((0 : Int) ≤ i ∧ i < ((s.len : Nat) : Int)) (ob (AH.cellsAt h s.id (s.off + Int.toNat i * 3) 3) fun cs => ints3 .i64 cs K) := by
  subst hi
  have hl : s.len = L.length := by have := a.len; rw [tri_length] at this; simp only [lenO] at this; omega
  refine need_i (by omega) (ob_i (a := [.int .i64 L[k].1, .int .i64 L[k].2.1, .int .i64 L[k].2.2]) ?_ (by rw [ints3_eq]; exact hK))
  rw [Int.toNat_natCast, a.sub (by decide) (by rw [tri_length]; omega), tri_drop L k hk]
theorem tri_len {h : AH} {x : Option Sl} {L : List Tri} (a : SlAt h 3 x (tri L)) : lenO x = L.length := by have := a.len; rw [tri_length] at this; omega

def rightB (a : Tri) : Bool := decide (0 ≤ a.1) && decide (a.1 < 16) && decide (0 ≤ a.2.1) && decide (a.2.1 < 16) && decide (1 ≤ a.2.2) && decide (a.2.2 ≤ 1073741824)
theorem rightB_iff {a : Tri} : rightB a = true ↔ 0 ≤ a.1 ∧ a.1 < 16 ∧ 0 ≤ a.2.1 ∧ a.2.1 < 16 ∧ 1 ≤ a.2.2 ∧ a.2.2 ≤ 1073741824 := by simp [rightB, and_assoc]
theorem rightB_not {a : Tri} (h : ¬(0 ≤ a.1 ∧ a.1 < 16 ∧ 0 ≤ a.2.1 ∧ a.2.1 < 16 ∧ 1 ≤ a.2.2 ∧ a.2.2 ≤ 1073741824)) : rightB a = false := by
  rw [← Bool.not_eq_true]; exact fun h' => h (rightB_iff.1 h')

theorem region_right_ok {b p e : Int} {h : AH} {K : Bool → AH → Prop} (hk : ∀ h', Fr [] h h' → K (rightB (b, p, e)) h') : region_right b p e h K := by
  refine region_right.go ?_
  unfold region_rightw
  refine new_i fun i5 h4 e4 f4 _ => ?_
  have hk := hk h4 f4
  simp only [cell_of e4, List.getElem?_cons_zero, List.getElem?_cons_succ, ob_some, chkInt_int]
  have no : ¬(0 ≤ b ∧ b < 16 ∧ 0 ≤ p ∧ p < 16 ∧ 1 ≤ e ∧ e ≤ 1073741824) → K false h4 := fun hc => by rw [rightB_not hc] at hk; exact hk
  refine br_dec (fun h1 => br_dec (fun h2 => br_dec (fun h3 => br_dec (fun h4 => br_dec (fun h5 => ?_) fun h5 => no (by omega)) fun h4 => no (by omega)) fun h3 => no (by omega)) fun h2 => no (by omega)) fun h1 => no (by omega)
  by_cases h6 : e ≤ 1073741824
  · rw [decide_eq_true h6]; rw [rightB_iff.2 ⟨h1, h2, h3, h4, h5, h6⟩] at hk; exact hk
  · rw [decide_eq_false h6]; exact no (by omega)

/-! bytes -/

def byteOk (n : Int) : Bool := decide (0 ≤ n) && decide (n ≤ 255)
theorem byteOk_iff {n : Int} : byteOk n = true ↔ 0 ≤ n ∧ n ≤ 255 := by simp [byteOk]
def intCells (L : List Int) : List AV := L.map fun n => .int .i64 n
def toBytes (L : List Int) : List UInt8 := L.map fun n => UInt8.ofNat n.toNat

theorem toBytes_append (a b : List Int) : toBytes (a ++ b) = toBytes a ++ toBytes b := by simp [toBytes]
theorem region_bytes_L0_ok {L : List Int} (hL : L.length ≤ 1000) {bs : List UInt8} (hbs : bs.length < 100000) {x4 : Option Sl} {h0 : AH} {x0 : Option Sl} {Kr K0 : Option Sl → AV → AV → AH → Prop}
    (hk : L.all byteOk = true → ∀ x' h', Own h' 1 x' (bys (bs ++ toBytes L)) → Fr (ids x0) h0 h' → (∀ i ∈ ids x', i ∈ ids x0 ∨ h0.length ≤ i) → K0 x' .bot .bot h')
    (hbad : L.all byteOk = false → ∀ x' h', Fr (ids x0) h0 h' → Kr x' (.slice none) (.bool false) h') :
    ∀ (n k : Nat) (x : Option Sl) (h : AH), k + n = L.length → (L.take k).all byteOk = true → Fr (ids x0) h0 h → Own h 1 x (bys (bs ++ toBytes (L.take k))) → (∀ i ∈ ids x, i ∈ ids x0 ∨ h0.length ≤ i) → SlAt h 1 x4 (intCells L) → (∀ i ∈ slId x4, i ∉ ids x0 ∧ i < h0.length) → region_bytes_L0 x x4 (L.length : Int) (k : Int) h Kr K0
  | 0, k, x, h, hn, hv, f, o, hi, _, _ => by
    refine region_bytes_L0.go ?_
    unfold region_bytes_L0w
    rw [br_neg (by omega)]
    rw [List.take_of_length_le (by omega)] at o hv
    exact hk hv x h o f hi
  | n + 1, k, x, h, hn, hv, f, o, hi, h4', hd => by
    have hlt : k < L.length := by omega
    have hlen := h4'.len
    simp only [intCells, List.length_map] at hlen
    obtain ⟨s, rfl⟩ : ∃ s, x4 = some s := by
      cases x4 with
      | none => simp [lenO] at hlen; omega
      | some s => exact ⟨s, rfl⟩
    have hlen : s.len = L.length := by simp [lenO] at hlen; omega
    refine region_bytes_L0.go ?_
    unfold region_bytes_L0w
    rw [br_pos (by omega)]
    simp only [ob_some, Int.toNat_natCast, Nat.mul_one]
    have hc : h.cell s.id (s.off + k) = some (.int .i64 L[k]) := by
      rw [h4'.at_ (by simp [intCells]; omega)]; simp [intCells, hlt]
    refine need_i (by omega) (ob_i hc ?_)
    rw [chkInt_int]
    have bad : byteOk L[k] = false → L.all byteOk = false := fun hb => by
      rw [List.all_eq_false]; exact ⟨L[k], List.getElem_mem hlt, by rw [hb]; decide⟩
    refine br_dec (fun h1 => hbad (bad ?_) _ _ f) fun h1 => br_dec (fun h2 => hbad (bad ?_) _ _ f) fun h2 => ?_
    · rw [← Bool.not_eq_true, byteOk_iff]; omega
    · rw [← Bool.not_eq_true, byteOk_iff]; omega
    refine new_i fun i21 h20 e20 f20 l20 => ?_
    obtain ⟨m, hm⟩ := Int.eq_ofNat_of_zero_le (show 0 ≤ L[k] by omega)
    have hs : SlAt h20 1 (some ⟨i21, 0, 1, 1, none⟩) (bys [UInt8.ofNat L[k].toNat]) := by
      rw [hm, wrap_u8_nat] at e20
      rw [hm, Int.toNat_natCast]
      exact SlAt.made e20 rfl
    have ox := o.kept f20
    have el : lenO x = bs.length + k := by have := o.slAt.len; simp [toBytes] at this; omega
    refine append_own (bytes := 1) ox (fun K' => aNews_at hs (by decide) K') (by simp [lenO]) (bys_scal _) (by show (lenO x + 1) * 1 ≤ _; omega) fun x' h' o' f' i' => ?_
    rw [wrap_i64 (by omega) (by omega)]
    have e : L.take (k + 1) = L.take k ++ [L[k]] := by rw [List.take_add_one, List.getElem?_eq_getElem hlt]; rfl
    have hh := f.len
    have hsn : slId (some s) = [s.id] := by simp [slId]; omega
    have hds := hd s.id (by rw [hsn]; simp)
    refine region_bytes_L0_ok hL hbs hk hbad n (k + 1) x' h' (by omega) ?_ ((f.trans f20.nil).tr' f' hi) ?_ (fun i hm => ?_) ?_ hd
    · rw [e, List.all_append, hv]
      simp only [List.all_cons, List.all_nil, Bool.and_true, Bool.true_and]
      exact byteOk_iff.2 (by omega)
    · rw [e, toBytes_append, ← List.append_assoc, bys_append (bs ++ _)]
      exact o'
    · rcases i' i hm with h1 | h1
      · exact hi i h1
      · right; have := f20.len; omega
    · refine (h4'.kept f20).fr f' fun i hm hx => ?_
      rw [hsn] at hm
      simp at hm
      subst hm
      rcases hi _ hx with h1 | h1
      · exact hds.1 h1
      · omega

theorem region_bytes_ok {L : List Int} (hL : L.length ≤ 1000) {bs : List UInt8} (hbs : bs.length < 100000) {x x4 : Option Sl} {h : AH} (h4 : SlAt h 1 x4 (intCells L)) (hd : ∀ i ∈ slId x4, i ∉ ids x ∧ i < h.length) (o : Own h 1 x (bys bs)) {K : Option Sl → Bool → AH → Prop}
    (hk : L.all byteOk = true → ∀ x' h', Own h' 1 x' (bys (bs ++ toBytes L)) → Fr (ids x) h h' → (∀ i ∈ ids x', i ∈ ids x ∨ h.length ≤ i) → K x' true h')
    (hbad : L.all byteOk = false → ∀ h', Fr (ids x) h h' → K none false h') : region_bytes x x4 h K := by
  refine region_bytes.go ?_
  unfold region_bytesw
  have el : lenO x4 = L.length := by have := h4.len; simp [intCells] at this; exact this
  rw [el]
  refine region_bytes_L0_ok (x0 := x) hL hbs (fun hv x' h' o' f' i' => hk hv x' h' o' f' i') (fun hv x' h' f' => hbad hv h' f') L.length 0 x h (by omega) (by simp) (.refl _ _) (by simpa [toBytes] using o) (fun i hi => .inl hi) h4 hd

/-! KillLoad -/

def killBytes (L : List Tri) : List UInt8 := L.flatMap fun a => [UInt8.ofNat a.1.toNat, UInt8.ofNat a.2.1.toNat] ++ leBytes a.2.2.toNat 4
theorem killBytes_append (a b : List Tri) : killBytes (a ++ b) = killBytes a ++ killBytes b := by simp [killBytes]
theorem killBytes_length : ∀ L : List Tri, (killBytes L).length = 6 * L.length
  | [] => rfl
  | a :: L => by
    have := killBytes_length L
    unfold killBytes at this ⊢
    rw [List.flatMap_cons, List.length_append, this]; simp; omega

/-- What a KillLoad answers. -/
structure KillK (h0 : AH) (L : List Tri) (K : Option Sl → Int → AH → Prop) : Prop where
  ok : L.all rightB = true → ∀ x' h', Own h' 1 x' (bys (killBytes L)) → Fr [] h0 h' → (∀ i ∈ ids x', h0.length ≤ i) → K x' 0 h'
  bad : L.all rightB = false → ∀ h', Fr [] h0 h' → K none 3 h'

theorem region_KillLoad_L0_ok {L : List Tri} (hL : L.length ≤ 1000) {h0 : AH} {Kr K0 : AV → AV → Option Sl → AH → Prop}
    (hk : L.all rightB = true → ∀ x' h', Own h' 1 x' (bys (killBytes L)) → Fr [] h0 h' → (∀ i ∈ ids x', h0.length ≤ i) → K0 .bot .bot x' h')
    (hbad : L.all rightB = false → ∀ x' h', Fr [] h0 h' → Kr (.slice none) (.int .i64 3) x' h') {x4 : Option Sl} (h4 : SlAt h0 3 x4 (tri L)) :
    ∀ (n k : Nat) (x : Option Sl) (h : AH), k + n = L.length → (L.take k).all rightB = true → Fr [] h0 h → Own h 1 x (bys (killBytes (L.take k))) → (∀ i ∈ ids x, h0.length ≤ i) → region_KillLoad_L0 x x4 (L.length : Int) (k : Int) h Kr K0
  | 0, k, x, h, hn, hv, f, o, hi => by
    refine region_KillLoad_L0.go ?_
    unfold region_KillLoad_L0w
    rw [br_neg (by omega)]
    rw [List.take_of_length_le (by omega)] at o hv
    exact hk hv x h o f hi
  | n + 1, k, x, h, hn, hv, f, o, hi => by
    have hlt : k < L.length := by omega
    have h4' := h4.kept f
    have hlen := tri_len h4'
    obtain ⟨s, rfl⟩ : ∃ s, x4 = some s := by
      cases x4 with
      | none => simp [lenO] at hlen; omega
      | some s => exact ⟨s, rfl⟩
    refine region_KillLoad_L0.go ?_
    unfold region_KillLoad_L0w
    rw [br_pos (by omega)]
    simp only [ob_some]
    refine tri_i h4' k rfl hlt ?_
    refine new_i fun i22 h21 e21 f21 l21 => put_i e21 rfl fun h23 e23 f23 => ob_all e23 rfl ?_
    rw [ints3_eq]
    have f23' : Fr [] h h23 := f21.tr f23 (by simpa using l21)
    refine region_right_ok fun h29 f29 => ?_
    have f29' := f23'.trans f29
    have e : L.take (k + 1) = L.take k ++ [L[k]] := by rw [List.take_add_one, List.getElem?_eq_getElem hlt]; rfl
    by_cases hr : rightB L[k] = true
    case neg =>
      have hr' : rightB L[k] = false := by simpa using hr
      show br (!rightB L[k]) _ _
      rw [hr']
      refine hbad ?_ _ _ (f.trans f29')
      rw [List.all_eq_false]; exact ⟨L[k], List.getElem_mem hlt, hr⟩
    show br (!rightB L[k]) _ _
    rw [hr]
    simp only [Bool.not_true, br_false]
    have hr2 := rightB_iff.1 hr
    have e29 := f29.kept e23
    simp only [cell_of e29, List.getElem?_cons_zero, List.getElem?_cons_succ, ob_some, chkInt_int]
    refine new_i fun i36 h35 e35 f35 l35 => ?_
    have f35' := f29'.trans f35
    have o35 := o.kept f35'
    have hx : ∀ i ∈ ids x, i < h.length := o.lt
    have hh := f35'.len
    have hh29 := f29'.len
    have hbl : (killBytes (L.take k)).length = 6 * k := by rw [killBytes_length, List.length_take]; omega
    refine region_bytes_ok (L := [L[k].1, L[k].2.1]) (by simp) (bs := killBytes (L.take k)) (by omega) (SlAt.made e35 rfl) ?_ o35 (fun _ x' h38 o38 f38 i38 => ?_) (fun hv' => ?_)
    · intro i hm
      have h35 := (List.getElem?_eq_some_iff.1 e35).1
      simp [slId] at hm
      subst hm
      exact ⟨fun hm => by have := hx _ hm; omega, h35⟩
    · have e38 := f38.keep (f35.kept e29) (fun hm => by have := hx _ hm; omega)
      simp only [cell_of e38, List.getElem?_cons_zero, List.getElem?_cons_succ, ob_some, chkInt_int]
      obtain ⟨m, hm⟩ := Int.eq_ofNat_of_zero_le (show 0 ≤ L[k].2.2 by omega)
      rw [hm]
      have hi38 : ∀ i ∈ ids x', h0.length ≤ i := fun i hm => by
        rcases i38 i hm with h1 | h1
        · exact hi i h1
        · have := f.len; omega
      refine wire_Put_ok (w := 4) o38.slAt (by rw [List.length_append, hbl]; simp [toBytes]; omega) (by omega) (by omega) (show m < 4294967296 by omega) fun x'' h44 o44 f44 i44 => ?_
      rw [wrap_i64 (by omega) (by omega)]
      have f38' := (f.trans f35').tr f38 hi
      refine region_KillLoad_L0_ok hL hk hbad h4 n (k + 1) x'' h44 (by omega) ?_ (f38'.trans f44) ?_ fun i hm => ?_
      · rw [e, List.all_append, hv]; simpa using hr
      · rw [e, killBytes_append]
        have : killBytes [L[k]] = toBytes [L[k].1, L[k].2.1] ++ leBytes m 4 := by simp [killBytes, toBytes, hm]
        rw [this, ← List.append_assoc]
        exact o44
      · have := i44 i hm; have := f38'.len; omega
    · exfalso
      have h1 : byteOk L[k].1 = true := byteOk_iff.2 (by omega)
      have h2 : byteOk L[k].2.1 = true := byteOk_iff.2 (by omega)
      simp [h1, h2] at hv'

theorem region_KillLoad_ok {L : List Tri} (hL : L.length ≤ 1000) {x : Option Sl} {h : AH} (hx : SlAt h 3 x (tri L)) {K : Option Sl → Int → AH → Prop} (hk : KillK h L K) : region_KillLoad x h K := by
  refine region_KillLoad.go ?_
  unfold region_KillLoadw
  rw [tri_len hx]
  exact region_KillLoad_L0_ok hL (fun hv x' h' o f i => hk.ok hv x' h' o f i) (fun hv x' h' f => hk.bad hv h' f) hx L.length 0 none h (by omega) (by simp) (.refl _ _) (show _ = _ by simp [killBytes]) (by simp [ids])

theorem depotref25_KillLoad_L0_ok {L : List Tri} (hL : L.length ≤ 1000) {h0 : AH} {Kr K0 : AV → AV → Option Sl → AH → Prop}
    (hk : L.all rightB = true → ∀ x' h', Own h' 1 x' (bys (killBytes L)) → Fr [] h0 h' → (∀ i ∈ ids x', h0.length ≤ i) → K0 .bot .bot x' h')
    (hbad : L.all rightB = false → ∀ x' h', Fr [] h0 h' → Kr (.slice none) (.int .i64 3) x' h') {x4 : Option Sl} (h4 : SlAt h0 3 x4 (tri L)) :
    ∀ (n k : Nat) (x : Option Sl) (h : AH), k + n = L.length → (L.take k).all rightB = true → Fr [] h0 h → Own h 1 x (bys (killBytes (L.take k))) → (∀ i ∈ ids x, h0.length ≤ i) → depotref25_KillLoad_L0 x4 x (k : Int) h Kr K0
  | 0, k, x, h, hn, hv, f, o, hi => by
    refine depotref25_KillLoad_L0.go ?_
    unfold depotref25_KillLoad_L0w
    rw [tri_len h4, br_neg (by omega)]
    rw [List.take_of_length_le (by omega)] at o hv
    exact hk hv x h o f hi
  | n + 1, k, x, h, hn, hv, f, o, hi => by
    have hlt : k < L.length := by omega
    have h4' := h4.kept f
    have hlen := tri_len h4'
    obtain ⟨s, rfl⟩ : ∃ s, x4 = some s := by
      cases x4 with
      | none => simp [lenO] at hlen; omega
      | some s => exact ⟨s, rfl⟩
    refine depotref25_KillLoad_L0.go ?_
    unfold depotref25_KillLoad_L0w
    rw [hlen, br_pos (by omega)]
    simp only [ob_some]
    refine tri_i h4' k rfl hlt ?_
    refine new_i fun i22 h21 e21 f21 l21 => put_i e21 rfl fun h23 e23 f23 => ?_
    have f23' : Fr [] h h23 := f21.tr f23 (by simpa using l21)
    simp only [cell_of e23, List.getElem?_cons_zero, List.getElem?_cons_succ, ob_some, chkInt_int]
    have e : L.take (k + 1) = L.take k ++ [L[k]] := by rw [List.take_add_one, List.getElem?_eq_getElem hlt]; rfl
    have no : ¬(0 ≤ L[k].1 ∧ L[k].1 < 16 ∧ 0 ≤ L[k].2.1 ∧ L[k].2.1 < 16 ∧ 1 ≤ L[k].2.2 ∧ L[k].2.2 ≤ 1073741824) → Kr (.slice none) (.int .i64 3) x h23 := fun hc => by
      refine hbad ?_ _ _ (f.trans f23')
      rw [List.all_eq_false]; exact ⟨L[k], List.getElem_mem hlt, by rw [rightB_not hc]; decide⟩
    refine br_dec (fun h1 => no (by omega)) fun h1 => br_dec (fun h1 => no (by omega)) fun h2 => br_dec (fun h1 => no (by omega)) fun h3 => br_dec (fun h1 => no (by omega)) fun h4 => br_dec (fun h1 => no (by omega)) fun h5 => br_dec (fun h1 => no (by omega)) fun h6 => ?_
    have hr : rightB L[k] = true := rightB_iff.2 (by omega)
    obtain ⟨m1, hm1⟩ := Int.eq_ofNat_of_zero_le (show 0 ≤ L[k].1 by omega)
    obtain ⟨m2, hm2⟩ := Int.eq_ofNat_of_zero_le (show 0 ≤ L[k].2.1 by omega)
    rw [hm1, hm2, wrap_u8_val, wrap_u8_val]
    refine new_i fun i40 h39 e39 f39 l39 => ?_
    have f39' := f23'.trans f39
    have hs39 : SlAt h39 1 (some ⟨i40, 0, 2, 2, none⟩) (bys [UInt8.ofNat m1, UInt8.ofNat m2]) := SlAt.made e39 rfl
    have hbl : (killBytes (L.take k)).length = 6 * k := by rw [killBytes_length, List.length_take]; omega
    have el : lenO x = 6 * k := by have := o.slAt.len; rw [bys_length, hbl] at this; omega
    have hx : ∀ i ∈ ids x, i < h.length := o.lt
    refine append_own (bytes := 1) (o.kept f39') (fun K' => aNews_at hs39 (by decide) K') (by simp [lenO]) (bys_scal _) (by show (lenO x + 2) * 1 ≤ _; omega) fun x' h44 o44 f44 i44 => ?_
    rw [← bys_append] at o44
    have e44 := f44.keep (f39.kept e23) (fun hm => by have := hx _ hm; omega)
    simp only [cell_of e44, List.getElem?_cons_zero, List.getElem?_cons_succ, ob_some, chkInt_int]
    obtain ⟨m, hm⟩ := Int.eq_ofNat_of_zero_le (show 0 ≤ L[k].2.2 by omega)
    rw [hm]
    refine depotref03_Put_ok (w := 4) o44.slAt (by rw [List.length_append, hbl]; simp; omega) (by omega) (by omega) (show m < 4294967296 by omega) fun x'' h48 o48 f48 i48 => ?_
    rw [wrap_i64 (by omega) (by omega)]
    have f44' := (f.trans f39').tr f44 hi
    refine depotref25_KillLoad_L0_ok hL hk hbad ‹_› n (k + 1) x'' h48 (by omega) ?_ (f44'.trans f48) ?_ fun i hm => ?_
    · rw [e, List.all_append, hv]; simpa using hr
    · rw [e, killBytes_append]
      have : killBytes [L[k]] = [UInt8.ofNat m1, UInt8.ofNat m2] ++ leBytes m 4 := by simp [killBytes, hm, hm1, hm2]
      rw [this, ← List.append_assoc]
      exact o48
    · have := i48 i hm; have := f44'.len; omega

theorem depotref25_KillLoad_ok {L : List Tri} (hL : L.length ≤ 1000) {x : Option Sl} {h : AH} (hx : SlAt h 3 x (tri L)) {K : Option Sl → Int → AH → Prop} (hk : KillK h L K) : depotref25_KillLoad x h K := by
  refine depotref25_KillLoad.go ?_
  unfold depotref25_KillLoadw
  exact depotref25_KillLoad_L0_ok hL (fun hv x' h' o f i => hk.ok hv x' h' o f i) (fun hv x' h' f => hk.bad hv h' f) hx L.length 0 none h (by omega) (by simp) (.refl _ _) (show _ = _ by simp [killBytes]) (by simp [ids])

end Go.Abs
