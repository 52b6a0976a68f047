/- The words of printed readings: what a function's body comes to, as typed text; the codes' parts; what stands behind a code. -/
import Derived.Test.YtdpecfeofcibhaaA17
namespace Go.Abs

def bodyOf (f : Option Func) : Code :=
  match f with
  | some f => f.body.getD .skip
  | none => .skip

/-- A part of a code: by its path. -/
def sub : List Bool → Code → Code
  | [], c => c
  | b :: l, .seq x y => sub l (bif b then y else x)
  | b :: l, .cond _ x y => sub l (bif b then y else x)
  | _ :: l, .block _ c => sub l c
  | _ :: l, .loop c => sub l c
  | _ :: l, .scope c => sub l c
  | _, c => c

def lt {α : Sort _} (x : α) (F : α → Prop) : Prop := F x

def asAgg (v : AV) (F : List AV → Prop) : Prop :=
  match v with
  | .agg cs => F cs
  | _ => False

def asTup (v : AV) (F : List AV → Prop) : Prop :=
  match v with
  | .tup cs => F cs
  | _ => False

def asCons (l : List AV) (F : AV → List AV → Prop) : Prop :=
  match l with
  | [] => False
  | a :: as => F a as

def asNil (l : List AV) (F : Prop) : Prop :=
  match l with
  | [] => F
  | _ :: _ => False

def onSl (x : Option Sl) (A : Prop) (B : Sl → Prop) : Prop :=
  match x with
  | none => A
  | some s => B s

def ints2 (k : IntKind) (l : List AV) (F : Int → Int → Prop) : Prop :=
  asCons l fun v0 l0 => chkInt k v0 fun n0 => asCons l0 fun v1 l1 => chkInt k v1 fun n1 => asNil l1 <| F n0 n1

def ints3 (k : IntKind) (l : List AV) (F : Int → Int → Int → Prop) : Prop :=
  asCons l fun v0 l0 => chkInt k v0 fun n0 => asCons l0 fun v1 l1 => chkInt k v1 fun n1 => asCons l1 fun v2 l2 => chkInt k v2 fun n2 => asNil l2 <| F n0 n1 n2

def ints4 (k : IntKind) (l : List AV) (F : Int → Int → Int → Int → Prop) : Prop :=
  asCons l fun v0 l0 => chkInt k v0 fun n0 => asCons l0 fun v1 l1 => chkInt k v1 fun n1 => asCons l1 fun v2 l2 => chkInt k v2 fun n2 => asCons l2 fun v3 l3 => chkInt k v3 fun n3 => asNil l3 <| F n0 n1 n2 n3

def ints5 (k : IntKind) (l : List AV) (F : Int → Int → Int → Int → Int → Prop) : Prop :=
  asCons l fun v0 l0 => chkInt k v0 fun n0 => asCons l0 fun v1 l1 => chkInt k v1 fun n1 => asCons l1 fun v2 l2 => chkInt k v2 fun n2 => asCons l2 fun v3 l3 => chkInt k v3 fun n3 => asCons l3 fun v4 l4 => chkInt k v4 fun n4 => asNil l4 <| F n0 n1 n2 n3 n4

def ints6 (k : IntKind) (l : List AV) (F : Int → Int → Int → Int → Int → Int → Prop) : Prop :=
  asCons l fun v0 l0 => chkInt k v0 fun n0 => asCons l0 fun v1 l1 => chkInt k v1 fun n1 => asCons l1 fun v2 l2 => chkInt k v2 fun n2 => asCons l2 fun v3 l3 => chkInt k v3 fun n3 => asCons l3 fun v4 l4 => chkInt k v4 fun n4 => asCons l4 fun v5 l5 => chkInt k v5 fun n5 => asNil l5 <| F n0 n1 n2 n3 n4 n5

def ints7 (k : IntKind) (l : List AV) (F : Int → Int → Int → Int → Int → Int → Int → Prop) : Prop :=
  asCons l fun v0 l0 => chkInt k v0 fun n0 => asCons l0 fun v1 l1 => chkInt k v1 fun n1 => asCons l1 fun v2 l2 => chkInt k v2 fun n2 => asCons l2 fun v3 l3 => chkInt k v3 fun n3 => asCons l3 fun v4 l4 => chkInt k v4 fun n4 => asCons l4 fun v5 l5 => chkInt k v5 fun n5 => asCons l5 fun v6 l6 => chkInt k v6 fun n6 => asNil l6 <| F n0 n1 n2 n3 n4 n5 n6

def ints8 (k : IntKind) (l : List AV) (F : Int → Int → Int → Int → Int → Int → Int → Int → Prop) : Prop :=
  asCons l fun v0 l0 => chkInt k v0 fun n0 => asCons l0 fun v1 l1 => chkInt k v1 fun n1 => asCons l1 fun v2 l2 => chkInt k v2 fun n2 => asCons l2 fun v3 l3 => chkInt k v3 fun n3 => asCons l3 fun v4 l4 => chkInt k v4 fun n4 => asCons l4 fun v5 l5 => chkInt k v5 fun n5 => asCons l5 fun v6 l6 => chkInt k v6 fun n6 => asCons l6 fun v7 l7 => chkInt k v7 fun n7 => asNil l7 <| F n0 n1 n2 n3 n4 n5 n6 n7

def unbornAt (h : AH) (i : Nat) (F : Prop) : Prop :=
  match h[i]? with
  | some .unborn => F
  | _ => False

def onMap (x : Option Nat) (A : Prop) (B : Nat → Prop) : Prop :=
  match x with
  | none => A
  | some s => B s

def onEnt (x : Option MEnt) (A : Prop) (B : MEnt → Prop) : Prop :=
  match x with
  | some s => B s
  | none => A

def onIx (x : Option Nat) (A : Prop) (B : Nat → Prop) : Prop :=
  match x with
  | some s => B s
  | none => A

def asIt (v : AV) (F : Nat → Prop) : Prop :=
  match v with
  | .ptr (some (r, 0)) => F r
  | _ => False

def onIter (h : AH) (r : Nat) (A : Prop) (B : Nat → Nat → List Nat → Nat → Prop) : Prop :=
  match h[r]? with
  | some (.iter none _ _ _) => A
  | some (.iter (some m) since seen last) => B m since seen last
  | _ => False

def onStep (h : AH) (r : Nat) (B : Nat → List Nat → Nat → Prop) : Prop :=
  match h[r]? with
  | some (.iter (some m) _ seen stepped) => B m seen stepped
  | _ => False

def unlessP (c : Prop) [Decidable c] (A : Prop) : Prop := if c then False else A

/-- What may come next: none, or an entry. -/
def cands (since : Nat) (seen : List Nat) (es : List MEnt) : List (Option MEnt) :=
  let left := es.filter fun e => !seen.contains e.born
  let old := left.filter (·.born < since)
  let new := left.filter fun e => e.born ≥ since
  (if old.isEmpty then [none] else []) ++ (old ++ new).map some

def eachEnt (since : Nat) (seen : List Nat) (es : List MEnt) (A : Prop) (B : MEnt → Prop) : Prop :=
  ∀ c, c < (cands since seen es).length →
    match (cands since seen es)[c]? with
    | some (some e) => B e
    | some none => A
    | none => False

/-- A condition that must hold. -/
def need (c : Prop) [Decidable c] (A : Prop) : Prop := if c then A else False

/-- Two ways. -/
def br (b : Bool) (A B : Prop) : Prop := bif b then A else B

/-- A new block. -/
def new (h : AH) (b : ABlk) (F : Nat → AH → Prop) : Prop := F h.length (h ++ [b])

/-- Numbers held for blocks. -/
def hold (h : AH) (n : Nat) (F : AH → Prop) : Prop := F (h ++ List.replicate n .unborn)

/-- A block comes under the number that is held for it. -/
def birth (h : AH) (i : Nat) (b : ABlk) (F : AH → Prop) : Prop := unbornAt h i (F (h.set i b))

def exCase (e : AEx) (r : Prop) (f : Nat → Prop) : Prop :=
  match e with
  | .normal => False
  | .ret => r
  | .exit id => f id

section
variable (P : Program) (C : CallP) (L : LoopP)

abbrev KE := AEx → List AV → AH → Prop

def kSeq (kp : Keep) (b : Code) (K : KE) : KE := fun e env h =>
  match e with
  | .normal =>
    match cutIn kp.2 (firstId b) with
    | some k => L kp (.scope b) (forget k 0 env) h K
    | none => exec P C L kp b env h K
  | e => K e env h

def kBlock (id : Nat) (K : KE) : KE := fun e env h =>
  match e with
  | .exit id' => bif id' == id then K .normal env h else K (.exit id') env h
  | e => K e env h

def kBody (kp : Keep) (c : Code) (K : KE) : KE := fun e env h =>
  match e with
  | .normal => L kp c (forget (keepOf kp (firstId c)).1 0 env) h K
  | e => K e env h

def kFn (f : Option Func) (K : AV → AH → Prop) : KE := fun e env h =>
  match e with
  | .normal | .ret => aResults P env h ((f.map (·.results.toList)).getD []) fun vs => K (tupOf vs) h
  | _ => False

end

theorem step_call {P : Program} {M : FuncId → Keep} {f : FuncId} {args : List AV} {h : AH} {K : AV → AH → Prop} {X : Prop} (e : fstep P (ACall P M) (ALoop P M) M f args h K = X) (hx : X) : ACall P M f args h K :=
  ACall.fold (e ▸ hx)

theorem step_loop' {P : Program} {M : FuncId → Keep} {kp : Keep} {c : Code} {env : List AV} {h : AH} {K : KE} {X : Prop} (e : lstep P (ACall P M) (ALoop P M) kp c env h K = X) (hx : X) : ALoop P M kp c env h K :=
  ALoop.fold (e ▸ hx)

end Go.Abs
