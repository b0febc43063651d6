/- The precondition of one operation as a formula, and that it is enough. No condition. -/
import Derived.Test.YtmdhfmljgjnggaaT
namespace Go.Proofs.Ytmdhfmljgjnggaa

section
variable (P : Program)
def zeroOf (t : TypeId) : Value := match P.info? t with
  | some i => match i.zero with
    | some z => z
    | none => undef
  | none => undef
def zeroCells (t : TypeId) : Array Value := (zeroOf P t).cells
def hasZero (t : TypeId) : Bool := match P.info? t with
  | some i => i.zero.isSome
  | none => false
def kindEq (a b : IntKind) : Bool := decide (a = b)
def nilConst : Operand → Bool
  | .const (.pointer none) | .const (.map none) | .const (.slice none _ _) | .const .nilFunc | .const .nilIface => true
  | _ => false
/-- Is this value nil? -/
def nilT (d : Option TypeDesc) (v c : Value) (K : Bool → Prop) : Prop :=
  match d, v, c with
  | some (.pointer _), .pointer p, .pointer none => K p.isNone
  | some (.map _ _), .map r, .map none => K r.isNone
  | some (.slice _), .slice p _ _, .slice none _ _ => K p.isNone
  | some (.func _ _ _), .nilFunc, .nilFunc => K true
  | some (.func _ _ _), .func _ _ _, .nilFunc => K false
  | some (.interface _), .nilIface, .nilIface => K true
  | some (.interface _), .iface _ _, .nilIface => K false
  | _, _, _ => False
def intCmpT (op : BinOp) (x y : Int) (K : Bool → Prop) : Prop :=
  match op with
  | .eql => K (x == y)
  | .neq => K (x != y)
  | .lss => K (decide (x < y))
  | .leq => K (decide (x ≤ y))
  | .gtr => K (decide (x > y))
  | .geq => K (decide (x ≥ y))
  | _ => False
def intT (op : BinOp) (k : IntKind) (x y : Int) (K : Value → Prop) : Prop :=
  match op with
  | .add => K (.int k (k.wrap (x + y)))
  | .sub => K (.int k (k.wrap (x - y)))
  | .mul => K (.int k (k.wrap (x * y)))
  | .quo => y ≠ 0 ∧ K (.int k (k.wrap (x.tdiv y)))
  | .rem => y ≠ 0 ∧ K (.int k (x.tmod y))
  | .and => K (.int k (k.wrap ((BitVec.ofInt k.bits x &&& BitVec.ofInt k.bits y).toNat : Int)))
  | .or => K (.int k (k.wrap ((BitVec.ofInt k.bits x ||| BitVec.ofInt k.bits y).toNat : Int)))
  | .xor => K (.int k (k.wrap ((BitVec.ofInt k.bits x ^^^ BitVec.ofInt k.bits y).toNat : Int)))
  | .andNot => K (.int k (k.wrap ((BitVec.ofInt k.bits x &&& ~~~(BitVec.ofInt k.bits y)).toNat : Int)))
  | .eql | .neq | .lss | .leq | .gtr | .geq => intCmpT op x y fun b => K (.bool b)
  | _ => False
def isShift : BinOp → Bool
  | .shl | .shr => true
  | _ => false
def shiftT (op : BinOp) (k : IntKind) (x y : Int) (K : Value → Prop) : Prop :=
  match op with
  | .shl => 0 ≤ y ∧ K (.int k (k.wrap (x * 2 ^ min y.toNat k.bits)))
  | .shr => 0 ≤ y ∧ K (.int k (x.fdiv (2 ^ min y.toNat k.bits)))
  | _ => False
/-- Division by a constant that is not 0 asks for nothing. -/
def divConst (op : BinOp) (y : Operand) : Bool :=
  match op, y with
  | .quo, .const (.int _ n) | .rem, .const (.int _ n) => !decide (n = 0)
  | _, _ => false
def intDT (op : BinOp) (k : IntKind) (x y : Int) (K : Value → Prop) : Prop :=
  match op with
  | .quo => K (.int k (k.wrap (x.tdiv y)))
  | .rem => K (.int k (x.tmod y))
  | _ => False
def strT (op : BinOp) (x y : ByteArray) (K : Value → Prop) : Prop :=
  match op with
  | .add => ((x.size + y.size : Nat) : Int) ≤ 9223372036854775807 ∧ K (.string (x ++ y))
  | .eql => K (.bool (x.toList == y.toList))
  | .neq => K (.bool (!(x.toList == y.toList)))
  | .lss => K (.bool (Op.bytesLess x.toList y.toList))
  | _ => False
def binT (op : BinOp) (t : TypeId) (x y : Operand) (vx vy : Value) (h : Hp) (K : Value → Hp → Prop) : Prop :=
  match P.underlying t with
  | some (.int _) => match vx, vy with
    | .int k a, .int k' b => match isShift op with
      | true => shiftT op k a b fun v => K v h
      | false => condP (kindEq k k') (match divConst op y with
        | true => intDT op k a b fun v => K v h
        | false => intT op k a b fun v => K v h)
    | _, _ => False
  | some .string => match vx, vy with
    | .string a, .string b => strT op a b fun v => K v h
    | _, _ => False
  | some .bool => match vx, vy with
    | .bool a, .bool b => match op with
      | .eql => K (.bool (a == b)) h
      | .neq => K (.bool (!(a == b))) h
      | _ => False
    | _, _ => False
  | _ => ∃ b : Bool, RunsTo P (do eqGuard op t x y vx vy; binOp op t vx vy) h (.bool b) ∧ K (.bool b) h
/-- x == nil, x != nil. -/
def nilBinT (op : BinOp) (t : TypeId) (v c : Value) (h : Hp) (K : Value → Hp → Prop) : Prop :=
  match op with
  | .eql => nilT (P.underlying t) v c fun b => K (.bool b) h
  | .neq => nilT (P.underlying t) v c fun b => K (.bool (!b)) h
  | _ => False
def unT (op : UnOp) (v : Value) (K : Value → Prop) : Prop :=
  match op, v with
  | .not, .bool b => K (.bool (!b))
  | .neg, .int k n => K (.int k (k.wrap (0 - n)))
  | _, _ => False
def convT (s d : TypeId) (v : Value) (h : Hp) (K : Value → Hp → Prop) : Prop :=
  match P.underlying s, P.underlying d with
  | some (.int _), some (.int k) => match v with
    | .int _ n => K (.int k (k.wrap n)) h
    | _ => False
  | some .string, some .string => match v with
    | .string s => K (.string s) h
    | _ => False
  | _, _ => semWP P (convert s d v) h fun v h' => exTy P d fun u => v = u ∧ K u h'
def structFields (t : TypeId) : List Field := match P.underlying t with
  | some (.struct fs) => fs.toList
  | _ => []
def fieldAddrT (t : TypeId) (v : Value) (f : Nat) (K : Value → Prop) : Prop :=
  match v with
  | .pointer p => wth p fun a => wth ((structFields P t)[f]?) fun fd => condP (!Nat.beq (P.cellsOf fd.type) 0) (K (.pointer (some (a.add fd.offset))))
  | _ => False
def fieldT (t : TypeId) (v : Value) (f : Nat) (K : Value → Prop) : Prop :=
  match v with
  | .agg cs => wth ((structFields P t)[f]?) fun fd => match shapeOf P t with
    | .agg _ => match shapeOf P fd.type with
      | .agg _ => K (.agg ⟨(cs.toList.drop fd.offset).take (P.cellsOf fd.type)⟩)
      | .row _ => False
      | .bad => False
      | _ => wth (cs.toList[fd.offset]?) K
    | _ => partT P fd.type cs fd.offset K
  | _ => False
def indexAddrT (t : TypeId) (x i : Value) (K : Value → Prop) : Prop :=
  match i with
  | .int _ i => match P.underlying t, x with
    | some (.array len el), .pointer p => wth p fun a => 0 ≤ i ∧ i < (len : Int) ∧ condP (!Nat.beq (P.cellsOf el) 0) (K (.pointer (some (a.add (i.toNat * P.cellsOf el)))))
    | some (.slice el), .slice p len _ => 0 ≤ i ∧ i < (len : Int) ∧ condP (!Nat.beq (P.cellsOf el) 0) (wth p fun a => K (.pointer (some (a.add (i.toNat * P.cellsOf el)))))
    | _, _ => False
  | _ => False
def indexT (t : TypeId) (x i : Value) (K : Value → Prop) : Prop :=
  match i with
  | .int _ i => match P.underlying t, x with
    | some (.array len el), .agg cs => 0 ≤ i ∧ i < (len : Int) ∧ condP (!Nat.beq (P.cellsOf el) 0) (partT P el cs (i.toNat * P.cellsOf el) K)
    | some .string, .string s => 0 ≤ i ∧ ∃ b : UInt8, s[i.toNat]? = some b ∧ K (.int .u8 b.toNat)
    | _, _ => False
  | _ => False
def boundT (x : Option Value) (dflt : Nat) (K : Nat → Prop) : Prop :=
  match x with
  | none => K dflt
  | some (.int _ i) => 0 ≤ i ∧ K i.toNat
  | some _ => False
def leT (x : Option Value) (n m : Nat) (K : Prop) : Prop :=
  match x with
  | none => K
  | some _ => n ≤ m ∧ K
/-- s[lo:hi:max]: the three bounds. -/
def boundsT (len cap : Nat) (lo hi mx : Option Value) (K : Nat → Nat → Nat → Prop) : Prop :=
  boundT mx cap fun m => leT mx m cap (boundT hi len fun h => leT hi h m (boundT lo 0 fun l => leT lo l h (K l h m)))
def sliceT (t : TypeId) (x : Value) (lo hi mx : Option Value) (K : Value → Prop) : Prop :=
  match P.underlying t, x with
  | some .string, .string s => condP mx.isNone (boundsT s.size s.size lo hi none fun l h _ => K (.string (s.extract l h)))
  | some (.slice el), .slice p len cap => condP (!Nat.beq (P.cellsOf el) 0) (boundsT len cap lo hi mx fun l h m => K (.slice (if m = l then p else p.map (·.add (l * P.cellsOf el))) (h - l) (m - l)))
  | some (.array n el), .pointer p => condP (!Nat.beq (P.cellsOf el) 0) (wth p fun a => boundsT n n lo hi mx fun l h m => K (.slice (some (if m = l then a else a.add (l * P.cellsOf el))) (h - l) (m - l)))
  | _, _ => False
/-- Cells laid over others from a place on. -/
def fillL (zs : List Value) (off : Nat) : List Value → List Value
  | [] => zs
  | c :: cs => fillL (zs.set off c) (off + 1) cs
def partCells (P : Program) (t : TypeId) (v : Value) (K : List Value → Prop) : Prop :=
  match shapeOf P t, v with
  | .agg _, .agg cs => condP (Nat.beq cs.toList.length (P.cellsOf t)) (K cs.toList)
  | .row n, .agg cs => cs.size = n ∧ condP (Nat.beq n (P.cellsOf t)) (K cs.toList)
  | .agg _, _ => False
  | .row _, _ => False
  | .bad, _ => False
  | _, v => condP (Nat.beq (P.cellsOf t) 1) (condP (oneV v) (K [v]))
def fillPartsT (place : Nat → Option (Nat × TypeId)) : List (Nat × Value) → List Value → (List Value → Prop) → Prop
  | [], zs, K => K zs
  | (i, v) :: ps, zs, K => wth (place i) fun pl => partCells P pl.2 v fun cs => condP (Nat.ble (pl.1 + P.cellsOf pl.2) zs.length) (fillPartsT place ps (fillL zs pl.1 cs) K)
def fieldPlaceOf (t : TypeId) (i : Nat) : Option (Nat × TypeId) := match (structFields P t)[i]? with
  | some f => some (f.offset, f.type)
  | none => none
def evPairs (e : Env) : List (Nat × Operand) → Option (List (Nat × Value))
  | [] => some []
  | (i, x) :: xs => match e.ev x with
    | some v => match evPairs e xs with
      | some vs => some ((i, v) :: vs)
      | none => none
    | none => none
def okFields (t : TypeId) : Bool := (structFields P t).all fun f => (P.info? f.type).isSome
def buildT (t : TypeId) (ps : List (Nat × Value)) (K : Value → Prop) : Prop :=
  match P.underlying t with
  | some (.struct _) => condP (hasZero P t && okFields P t) (fillPartsT P (fieldPlaceOf P t) ps (zeroCells P t).toList fun cs => K (.agg ⟨cs⟩))
  | some (.array _ el) => condP (hasZero P t && !Nat.beq (P.cellsOf el) 0) (fillPartsT P (fun i => some (i * P.cellsOf el, el)) ps (zeroCells P t).toList fun cs => K (.agg ⟨cs⟩))
  | _ => False
def repL : Nat → List Value → List Value
  | 0, _ => []
  | n + 1, z => z ++ repL n z
def buildSliceT (t : TypeId) (len : Nat) (ps : List (Nat × Value)) (h : Hp) (K : Value → Hp → Prop) : Prop :=
  match P.underlying t with
  | some (.slice el) => condP (Nat.ble (len * P.cellsOf el) 1000 && Nat.ble 1 (P.cellsOf el) && hasZero P el && Nat.beq (zeroCells P el).toList.length (P.cellsOf el))
      (fillPartsT P (fun i => some (i * P.cellsOf el, el)) ps (repL len (zeroCells P el).toList) fun cs =>
        letH (h.push (.cells ⟨cs⟩ el)) fun h' => K (.slice (some ⟨h.size, 0, none⟩) len len) h')
  | _ => False
def storeT (t : TypeId) (h : Hp) (a : Addr) (v : Value) (K : Hp → Prop) : Prop :=
  match shapeOf P t with
  | .agg _ => match v with
    | .agg cs => condP (Nat.beq cs.toList.length (P.cellsOf t)) (storeL h a cs.toList 0 K)
    | _ => False
  | .row n => match v with
    | .agg cs => condP (Nat.beq n (P.cellsOf t)) (cs.size = n ∧ (∀ i, i < n → ∃ u, cs[i]? = some u ∧ oneV u = true) ∧ okRow h a n ∧ letH (setRow h a cs) K)
    | _ => False
  | .bad => False
  | _ => condP (Nat.beq (P.cellsOf t) 1) (condP (oneV v) ((∃ old, cellAt h a = some old) ∧ frozenAt h a = false ∧ letH (setH h a v) K))
/-- Not a value of that type. -/
def notIface (t : TypeId) (v : Value) : Prop := v = .nilIface ∨ ∃ t' u, v = .iface t' u ∧ t' ≠ t
def assertC (t : TypeId) (v : Value) (ok : Bool) (K : Value → Prop) : Prop :=
  match ok with
  | true => (exTy P t fun u => v = .iface t u ∧ K (.tuple ⟨[u, .bool true]⟩)) ∨ (notIface t v ∧ condP (hasZero P t) (K (.tuple ⟨[zeroOf P t, .bool false]⟩)))
  | false => exTy P t fun u => v = .iface t u ∧ K u
def assertT (t : TypeId) (v : Value) (ok : Bool) (K : Value → Prop) : Prop :=
  match P.underlying t with
  | some (.interface _) => False
  | some _ => assertC P t v ok K
  | none => False
def mkRes : List Value → Value
  | [v] => v
  | vs => .tuple ⟨vs⟩
def bodied (f : FuncId) : Bool := match P.funcs[f]? with
  | some fn => fn.body.isSome
  | none => false
def resTys (f : FuncId) : List TypeId := match P.funcs[f]? with
  | some fn => fn.resultTypes.toList
  | none => []
/-- A call whose results are of their types. -/
def callT (f : FuncId) (args : Array Value) (h : Hp) (K : Value → Hp → Prop) : Prop :=
  match bodied P f with
  | true => CallsH P f args h fun r h' => exTys P (resTys P f) [] fun vs => r = mkRes vs ∧ K (mkRes vs) h'
  | false => semWP P (callFunc f args) h fun n h' => nextWP P n h' fun r h'' => exTys P (resTys P f) [] fun vs => r = mkRes vs ∧ K (mkRes vs) h''
def und0 (tys : Array TypeId) : Option TypeDesc := match tys[0]? with
  | some ty => P.underlying ty
  | none => none
def lenT (tys : Array TypeId) (t : TypeId) (v : Value) (h : Hp) (K : Value → Hp → Prop) : Prop :=
  match und0 P tys with
  | some .string => match v with
    | .string s => K (.int .i64 s.size) h
    | _ => False
  | some (.array n _) => K (.int .i64 n) h
  | some (.slice _) => match v with
    | .slice _ n _ => K (.int .i64 n) h
    | _ => False
  | some (.pointer arr) => match P.underlying arr with
    | some (.array n _) => K (.int .i64 n) h
    | _ => False
  | some (.map _ _) => ∃ n : Int, RunsTo P (Builtin.len_ tys t ⟨[v]⟩) h (.int .i64 n) ∧ K (.int .i64 n) h
  | _ => False
def minT (mx : Bool) (a b : Value) (h : Hp) (K : Value → Hp → Prop) : Prop :=
  match a, b with
  | .int k x, .int k' y => condP (kindEq k k') (match mx with
    | false => K (.int k (if y < x then y else x)) h
    | true => K (.int k (if y > x then y else x)) h)
  | _, _ => False
def builtinT (b : Builtin) (tys : Array TypeId) (t : TypeId) (vs : List Value) (h : Hp) (K : Value → Hp → Prop) : Prop :=
  match b, vs with
  | .len, [v] => lenT P tys t v h K
  | .min, [a, b] => minT false a b h K
  | .max, [a, b] => minT true a b h K
  | .append, [s, x] => semWP P (Builtin.append_ tys t ⟨[s, x]⟩) h fun v h' => ∃ (p : Option Addr) (n c : Nat), v = .slice p n c ∧ K (.slice p n c) h'
  | .copy, [d, s] => semWP P (Builtin.copy_ tys t ⟨[d, s]⟩) h fun v h' => ∃ n : Int, v = .int .i64 n ∧ K (.int .i64 n) h'
  | .delete, [m, k] => semWP P (Builtin.delete_ tys t ⟨[m, k]⟩) h fun v h' => v = .tuple #[] ∧ K (.tuple #[]) h'
  | .clear, [x] => semWP P (Builtin.clear_ tys t ⟨[x]⟩) h fun v h' => v = .tuple #[] ∧ K (.tuple #[]) h'
  | _, _ => False
def mapElem (t : TypeId) : TypeId := match P.underlying t with
  | some (.map _ el) => el
  | _ => 0
def lookupT (t : TypeId) (m k : Value) (ok : Bool) (h : Hp) (K : Value → Hp → Prop) : Prop :=
  match ok with
  | true => exTy P (mapElem P t) fun u => ∃ b : Bool, RunsTo P (Instr.lookup t m k true) h (.tuple ⟨[u, .bool b]⟩) ∧ K (.tuple ⟨[u, .bool b]⟩) h
  | false => exTy P (mapElem P t) fun u => RunsTo P (Instr.lookup t m k false) h u ∧ K u h

/-- The precondition of an operation. 'ty': the types of what a range yields, by the slot in which it lands. -/
def opT (ty : Tmp → List TypeId) (o : Oper) (e : Env) (h : Hp) (K : Value → Hp → Prop) : Prop :=
  match o.op with
  | .move x | .assign x => wth (e.ev x) fun v => K v h
  | .pick c a b => wth (e.ev c) fun cv => match cv with
    | .bool t => iteP t (wth (e.ev a) fun v => K v h) (wth (e.ev b) fun v => K v h)
    | _ => False
  | .alloc t => condP (hasZero P t) (letH (h.push (.cells (zeroCells P t) t)) fun h' => K (.pointer (some ⟨h.size, 0, none⟩)) h')
  | .box t x => wth (e.ev x) fun v => letH (h.push (.cells v.cells t)) fun h' => K (.pointer (some ⟨h.size, 0, none⟩)) h'
  | .build t ps => wth (evPairs e ps.toList) fun vs => buildT P t vs fun v => K v h
  | .buildSlice t n ps => wth (evPairs e ps.toList) fun vs => buildSliceT P t n vs h K
  | .load t x => wth (e.ev x) fun v => match v with
    | .pointer p => wth p fun a => loadT P t h a fun v => K v h
    | _ => False
  | .store t x y => wth (e.ev x) fun v => wth (e.ev y) fun u => match v with
    | .pointer p => wth p fun a => storeT P t h a u fun h' => K undef h'
    | _ => False
  | .nilCheck x => wth (e.ev x) fun v => match v with
    | .pointer p => wth p fun a => K (.pointer (some a)) h
    | .func (.func f) first cap => K (.func (.func f) first cap) h
    | _ => False
  | .binOp op t x y _ => wth (e.ev x) fun vx => wth (e.ev y) fun vy => match nilConst y with
    | true => nilBinT P op t vx vy h K
    | false => binT P op t x y vx vy h K
  | .unOp op _ x => wth (e.ev x) fun v => unT op v fun v => K v h
  | .convert s d x => wth (e.ev x) fun v => convT P s d v h K
  | .makeInterface t x => wth (e.ev x) fun v => match P.underlying t with
    | some (.interface _) => False
    | some _ => K (.iface t v) h
    | none => False
  | .makeFunc fn first cap => wth (e.evs first.toList) fun vs => wth (e.evs cap.toList) fun us => K (.func fn ⟨vs⟩ ⟨us⟩) h
  | .makeMap _ none => letH (h.push (.map #[] 0)) fun h' => K (.map (some h.size)) h'
  | .makeSlice t l c => wth (e.ev l) fun vl => wth (e.ev c) fun vc => semWP P (Instr.makeSlice t vl vc) h fun v h' => ∃ (p : Option Addr) (n c : Nat), v = .slice p n c ∧ K (.slice p n c) h'
  | .slice t x lo hi mx => wth (e.ev x) fun v => wth (e.evs (lo.toList ++ hi.toList ++ mx.toList)) fun _ => condP (!mx.isSome || hi.isSome) (sliceT P t v (lo.bind e.ev) (hi.bind e.ev) (mx.bind e.ev) fun v => K v h)
  | .fieldAddr t x f => wth (e.ev x) fun v => fieldAddrT P t v f fun v => K v h
  | .field t x f => wth (e.ev x) fun v => fieldT P t v f fun v => K v h
  | .indexAddr t x i => wth (e.ev x) fun v => wth (e.ev i) fun vi => indexAddrT P t v vi fun v => K v h
  | .index t x i => wth (e.ev x) fun v => wth (e.ev i) fun vi => indexT P t v vi fun v => K v h
  | .lookup t x i ok => wth (e.ev x) fun v => wth (e.ev i) fun vi => lookupT P t v vi ok h K
  | .mapUpdate t m k x | .insert t m k x => wth (e.ev m) fun vm => wth (e.ev k) fun vk => wth (e.ev x) fun vx => semWP P (Instr.mapUpdate t vm vk vx) h fun _ h' => K undef h'
  | .range t x => wth (e.ev x) fun v => semWP P (Instr.range t v) h fun v h' => ∃ r : Nat, v = .pointer (some ⟨r, 0, none⟩) ∧ K (.pointer (some ⟨r, 0, none⟩)) h'
  | .next x false => wth (e.ev x) fun v => semWP P (Instr.next v false o.type) h fun v h' => ∃ (b : Bool) (xs : List Value), v = .tuple ⟨.bool b :: xs⟩ ∧ K (.tuple ⟨.bool b :: xs⟩) h'
  | .entry x => wth (e.ev x) fun v => exTys P (match o.dst with | some d => ty d | none => []) [] fun vs => RunsTo P (Instr.entry v) h (.tuple ⟨vs⟩) ∧ K (.tuple ⟨vs⟩) h
  | .typeAssert x _ t ok => wth (e.ev x) fun v => assertT P t v ok fun v => K v h
  | .extract x i => wth (e.ev x) fun v => match v with
    | .tuple vs => wth (vs.toList[i]?) fun v => K v h
    | _ => False
  | .call c => wth (e.evs c.args.toList) fun vs => match c.callee with
    | .value f => wth (e.ev f) fun fv => match fv with
      | .func (.func g) first cap => callT P g ⟨first.toList ++ vs ++ cap.toList⟩ h K
      | _ => False
    | .builtin b => builtinT P b c.argTypes o.type vs h K
    | .invoke _ _ => False
  | _ => False
end
end Go.Proofs.Ytmdhfmljgjnggaa
