/- The precondition of a function's code. No condition. -/
import Derived.Test.YtmdhfmljgjnggaaOps
namespace Go.Proofs.Ytmdhfmljgjnggaa

/-- What a reader of the code says beside it: by loop the slots that a round hands to the next; by slot what a range yields; by region an order. -/
structure Ann where
  loops : Nat → List (Tmp × TypeId)
  ty : Tmp → List TypeId
  canon : Nat → List Nat
  cuts : Nat → Option (List (Tmp × TypeId))

/-- What holds of typed values and memory. -/
abbrev CurI : List Sh → Type
  | [] => Hp → Prop
  | s :: ss => s.T → CurI ss
abbrev CurM : List Sh → Type
  | [] => Hp → Nat
  | s :: ss => s.T → CurM ss
/-- For all values of the shapes. -/
def headT : (ss : List Sh) → CurI ss → CurM ss → (List Value → (Hp → Prop) → (Hp → Nat) → Prop) → Prop
  | [], I, m, k => k [] I m
  | s :: ss, I, m, k => ∀ x : s.T, headT ss (I x) (m x) fun vs I' m' => k (s.inj x :: vs) I' m'
def headI : (ss : List Sh) → CurI ss → (List Value → (Hp → Prop) → Prop) → Prop
  | [], I, k => k [] I
  | s :: ss, I, k => ∀ x : s.T, headI ss (I x) fun vs I' => k (s.inj x :: vs) I'
/-- A value as a shape's. -/
def asSh (s : Sh) (v : Value) (k : s.T → Prop) : Prop :=
  match s, v, k with
  | .int k', .int k n, f => condP (kindEq k k') (f n)
  | .bool, .bool b, f => f b
  | .str, .string s, f => f s
  | .ptr, .pointer p, f => f p
  | .sl, .slice p n c, f => f (p, n, c)
  | .mp, .map r, f => f r
  | .row _, .agg cs, f => f cs
  | .val, v, f => f v
  | _, _, _ => False
def appT : (ss : List Sh) → CurI ss → CurM ss → List Value → ((Hp → Prop) → (Hp → Nat) → Prop) → Prop
  | [], I, m, [], k => k I m
  | s :: ss, I, m, v :: vs, k => asSh s v fun x => appT ss (I x) (m x) vs k
  | _, _, _, _, _ => False
def appI : (ss : List Sh) → CurI ss → List Value → ((Hp → Prop) → Prop) → Prop
  | [], I, [], k => k I
  | s :: ss, I, v :: vs, k => asSh s v fun x => appI ss (I x) vs k
  | _, _, _, _ => False
def Env.gets (e : Env) : List (Tmp × TypeId) → Option (List Value)
  | [] => some []
  | (t, _) :: ts => match e.get t with
    | some v => match Env.gets e ts with
      | some vs => some (v :: vs)
      | none => none
    | none => none
def Env.lay : List (Tmp × TypeId) → List Value → Env → Env
  | (t, _) :: ts, v :: vs, e => (t, v) :: Env.lay ts vs e
  | _, _, e => e
def memT (t : Tmp) : List Tmp → Bool
  | [] => false
  | u :: us => match Nat.beq t u with | true => true | false => memT t us
def Env.drop (ws : List Tmp) : Env → Env
  | [] => []
  | (t, v) :: e => match memT t ws with | true => Env.drop ws e | false => (t, v) :: Env.drop ws e
def dstsOf : List Oper → List Tmp
  | [] => []
  | o :: os => match o.dst with | some d => d :: dstsOf os | none => dstsOf os
def writesOf : Code → List Tmp
  | .region _ ops _ => dstsOf ops.toList
  | .seq a b => writesOf a ++ writesOf b
  | .cond _ a b => writesOf a ++ writesOf b
  | .block _ b => writesOf b
  | .loop b => writesOf b
  | .rangeFunc _ ps a b => ps.toList ++ writesOf a ++ writesOf b
  | .scope b => writesOf b
  | _ => []

section
variable (P : Program) (n : Nat) (ann : Ann)
def dstOk (d : Option Tmp) : Bool := match d with | some d => Nat.blt d n | none => true
def guardTmp (ops : Array Oper) (j : Nat) : Option Tmp := match ops.toList[j]? with
  | some o => o.dst
  | none => none
/-- One operation, its guard asked. K is told whether it ran. -/
def stepT (ops : Array Oper) (o : Oper) (e : Env) (h : Hp) (K : Bool → Env → Env → Value → Hp → Prop) : Prop :=
  condP (dstOk n o.dst) (match o.guard with
    | none => opT P ann.ty o e h fun v h' => K true e (e.put o.dst v) v h'
    | some (j, want) => wth (guardTmp ops j) fun t => wth (e.get t) fun gv => match gv with
      | .bool b =>
        let br : Bool → Prop := fun b' => match xor b' want with
          | false => opT P ann.ty o ((t, .bool b') :: e) h fun v h' => K true ((t, .bool b') :: e) (Env.put ((t, .bool b') :: e) o.dst v) v h'
          | true => K false ((t, .bool b') :: e) (Env.put ((t, .bool b') :: e) o.dst undef) undef h
        iteP b (br true) (br false)
      | .tuple _ => K false e (Env.put e o.dst undef) undef h
      | _ => False)
def regT (ops : Array Oper) : List Oper → Env → Hp → (Env → Hp → Prop) → Prop
  | [], e, h, K => K e h
  | o :: os, e, h, K => stepT P n ann ops o e h fun _ _ e' _ h' => regT ops os e' h' K
/-- 0: it reckons alone; 1: it reads memory; 2: anything. -/
def cls (o : Oper) : Nat :=
  match o.op with
  | .move _ | .assign _ | .pick .. | .build .. | .nilCheck _ | .unOp .. | .makeInterface .. | .makeFunc .. | .slice .. | .fieldAddr .. | .field .. | .indexAddr .. | .index .. | .extract .. | .typeAssert .. => 0
  | .binOp _ t _ y _ => match nilConst y with
    | true => 0
    | false => match P.underlying t with
      | some (.int _) | some .string | some .bool => 0
      | _ => 1
  | .convert s d _ => match P.underlying s, P.underlying d with
    | some (.int _), some (.int _) => 0
    | some .string, some .string => 0
    | _, _ => 2
  | .load .. | .lookup .. | .entry .. => 1
  | .call c => match c.callee with
    | .builtin .len => match und0 P c.argTypes with
      | some .string | some (.array _ _) | some (.slice _) | some (.pointer _) => 0
      | _ => 1
    | .builtin .min | .builtin .max => 0
    | _ => 2
  | _ => 2
def chk (ord : Nat → Nat → Bool) (i : Nat) : List (Nat × (Hp → Prop)) → Hp → Prop → Prop
  | [], _, X => X
  | (r, φ) :: ps, h, X => match ord r i with
    | true => chk ord i ps h X
    | false => φ h ∧ chk ord i ps h X
/-- A region that draws its order, in one order; what is read stays as it was read behind whatever may come ahead of the read. -/
def regD (ord : Nat → Nat → Bool) (ops : Array Oper) : List Nat → List (Nat × (Hp → Prop)) → Env → Hp → (Env → Hp → Prop) → Prop
  | [], _, e, h, K => K e h
  | i :: L, pend, e, h, K => wth (ops.toList[i]?) fun o => stepT P n ann ops o e h fun ran e0 e' v h' =>
    match cls P o with
    | 0 => regD ord ops L pend e' h' K
    | 1 => match ran with
      | true => regD ord ops L ((i, fun h2 => opT P ann.ty o e0 h2 fun v' _ => v' = v) :: pend) e' h' K
      | false => regD ord ops L pend e' h' K
    | _ => match ran with
      | true => chk ord i pend h' (regD ord ops L pend e' h' K)
      | false => regD ord ops L pend e' h' K

/-- Is i ahead of j? -/
def ordOf (bs : List Nat) (i j : Nat) : Bool := match bs[j]? with
  | some b => b.testBit i
  | none => false
def pairsOk (f : Nat → Nat → Bool) : List Nat → Bool
  | [] => true
  | i :: L => L.all (f i) && pairsOk f L
/-- The order given serves: it holds each operation once; none comes ahead of one that it waits for; what follows something loud waits for it; what is not ordered is apart. -/
def pairF (ops : Array Oper) (bs : List Nat) (i j : Nat) : Bool :=
  !Nat.beq i j && (!ordOf bs j i && (ordOf bs i j || (match ops.toList[i]?, ops.toList[j]? with
    | some oi, some oj => !Nat.beq (cls P oi) 2 && oi.apart ops oj
    | _, _ => false)))
def noSel (o : Oper) : Bool := match o.op with
  | .select _ _ => false
  | _ => true
def edgesOk : List Oper → Nat → Bool
  | [], _ => true
  | o :: os, i => noSel o && o.after.toList.all (fun e => !Region.binds .any e || Nat.blt e.on i) && edgesOk os (i + 1)
def drawOk (ops : Array Oper) (bs : List Nat) (canon : List Nat) : Bool :=
  edgesOk ops.toList 0 && canon.all (fun i => Nat.blt i ops.size) && (List.range ops.size).all (fun i => memT i canon) && pairsOk (pairF P ops bs) canon

def resT (e : Env) (h : Hp) : List ResultVar → List Value → (List Value → Prop) → Prop
  | [], acc, K => K acc.reverse
  | .tmp t :: rs, acc, K => wth (e.get t) fun v => resT e h rs (v :: acc) K
  | .cell a ty :: rs, acc, K => wth (e.get a) fun v => match v with
    | .pointer p => wth p fun ad => loadT P ty h ad fun u => resT e h rs (u :: acc) K
    | _ => False
def shs (l : List (Tmp × TypeId)) : List Sh := l.map fun x => shapeOf P x.2
def beforeL (ops : Array Oper) : List Nat := (Region.before ops).toList
def loopT (body : Code) (T : (Exit → Env → Hp → Prop) → Env → Hp → Prop) (id : Nat) (sl : List (Tmp × TypeId)) (K : Exit → Env → Hp → Prop) (e : Env) (h : Hp) : Prop :=
  ∃ (I : CurI (shs P sl)) (μ : CurM (shs P sl)), wth (e.gets sl) (fun vs => appT _ I μ vs fun I0 _ => I0 h) ∧
    headT _ I μ fun vs Ih mh => ∀ h, Ih h → T (fun x e' h' => match x with
      | .normal => wth (e'.gets sl) fun us => appT _ I μ us fun I1 m1 => I1 h' ∧ m1 h' < mh h
      | .exit id' => match Nat.beq id' id with
        | true => K .normal e' h'
        | false => K (.exit id') e' h'
      | x => K x e' h') (Env.lay sl vs (e.drop (writesOf body))) h
def blockK (id : Nat) (K : Exit → Env → Hp → Prop) : Exit → Env → Hp → Prop := fun x e h => match x with
  | .exit id' => match Nat.beq id' id with
    | true => K .normal e h
    | false => K (.exit id') e h
  | x => K x e h
/-- The first region of a piece of code. -/
def firstReg : Code → Option Nat
  | .region id _ _ => some id
  | .seq a _ => firstReg a
  | _ => none
def cutOf (c : Code) : Option (List (Tmp × TypeId)) := match firstReg c with
  | some r => ann.cuts r
  | none => none
def codeT : Code → (Exit → Env → Hp → Prop) → Env → Hp → Prop
  | .skip, K, e, h => K .normal e h
  | .region id ops draw, K, e, h => match draw with
    | false => regT P n ann ops ops.toList e h (K .normal)
    | true => condP (drawOk P ops (beforeL ops) (ann.canon id)) (regD P n ann (ordOf (beforeL ops)) ops (ann.canon id) [] e h (K .normal))
  | .seq x y, K, e, h => match cutOf ann y with
    | none => codeT x (fun z e h => match z with | .normal => codeT y K e h | z => K z e h) e h
    | some sl => ∃ J : CurI (shs P sl),
        codeT x (fun z e' h => match z with | .normal => wth (e'.gets sl) (fun vs => appI _ J vs fun J0 => J0 h) | z => K z e' h) e h ∧
        headI _ J fun vs Jh => ∀ h, Jh h → codeT y K (Env.lay sl vs (e.drop (writesOf x))) h
  | .cond c x y, K, e, h => wth (e.ev c) fun v => match v with
    | .bool b => iteP b (codeT x K e h) (codeT y K e h)
    | _ => False
  | .block id (.loop body), K, e, h => loopT P body (codeT body) id (ann.loops id) K e h
  | .block id c, K, e, h => codeT c (blockK id K) e h
  | .exit id, K, e, h => K (.exit id) e h
  | .ret, K, e, h => K .ret e h
  | _, _, _, _ => False
def argEnv : List Value → Nat → Env
  | [], _ => []
  | v :: vs, i => (i, v) :: argEnv vs (i + 1)
/-- The precondition of a function's body. -/
def fnT (fn : Func) (c : Code) (args : List Value) (h : Hp) (R : Value → Hp → Prop) : Prop :=
  codeT P n ann c (fun x e h => match x with
    | .normal | .ret => resT P e h fn.results.toList [] fun vs => R (mkRes vs) h
    | _ => False) (argEnv args 0) h
end
attribute [irreducible] fnT
end Go.Proofs.Ytmdhfmljgjnggaa
