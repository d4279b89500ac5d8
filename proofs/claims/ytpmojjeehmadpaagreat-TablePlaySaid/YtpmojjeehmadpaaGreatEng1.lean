/- Part of the proof of a law of 28: an engine that runs a function over an abstract heap, and what the functions compute; own work. -/
import Derived.WalkKit
import Derived.KernelRfl
import Derived.Orders
set_option linter.unusedVariables false
set_option linter.unusedSimpArgs false
set_option linter.unusedSectionVars false
namespace Go.Cz

/-! ## The abstract heap -/
inductive Blk where
  | cells (c : List Value) (wr : Bool)
abbrev H := Nat → Option Blk
abbrev HProp := H → Prop

structure Sl where
  a : Option Addr
  len : Nat
  cap : Nat

def H.set (h : H) (b : Nat) (o : Blk) : H := fun x => if x = b then some o else h x
def H.cell? (h : H) (a : Addr) : Option Value :=
  match h a.block with
  | some (.cells c _) => if a.spot.isSome then none else c[a.off]?
  | _ => none

/-! ## Types -/
inductive Ty0 where
  | i (k : IntKind) | b | s | p | sl | m
inductive Sh0 where
  | leaf (t : Ty0)
  | agg (l : List Ty0)
inductive Ty where
  | o (t : Ty0)
  | fn (sh rsh : List Sh0)
  | clo (k : Nat) (caps : List Ty0)     -- a function value that is known: what it captures
inductive Sh where
  | leaf (t : Ty)
  | agg (l : List Ty)

def Ty0.den : Ty0 → Type
  | .i _ => Int | .b => Bool | .s => ByteArray | .p => Option Addr | .sl => Sl | .m => Option Nat
def Sh0.tys : Sh0 → List Ty0
  | .leaf t => [t] | .agg l => l
def Tup0 : List Ty0 → Type
  | [] => Unit
  | [t] => t.den
  | t :: u :: r => t.den × Tup0 (u :: r)
def tysOf0 : List Sh0 → List Ty0
  | [] => []
  | s :: r => s.tys ++ tysOf0 r
def Ty.den : Ty → Type
  | .o t => t.den
  | .fn sh rsh => Tup0 (tysOf0 sh) → (Tup0 (tysOf0 rsh) → HProp) → HProp
  | .clo _ caps => Tup0 caps
def Tup : List Ty → Type
  | [] => Unit
  | [t] => t.den
  | t :: u :: r => t.den × Tup (u :: r)
def Sh.tys : Sh → List Ty
  | .leaf t => [t] | .agg l => l
def tysOf : List Sh → List Ty
  | [] => []
  | s :: r => s.tys ++ tysOf r

/-! ## Symbolic values -/
inductive SV where
  | i (k : IntKind) (n : Int)
  | b (c : Bool)
  | t (c : Bool)
  | s (z : ByteArray)
  | p (a : Option Addr)
  | ad (x : Addr)
  | sl (v : Sl)
  | m (r : Option Nat)
  | agg (l : List SV)
  | tup (l : List SV)
  | loc (id off : Nat)
  | lsl (id n : Nat)
  | clo (k : FuncId) (first cap : List SV)
  | fn (sh rsh : List Sh0) (f : Tup0 (tysOf0 sh) → (Tup0 (tysOf0 rsh) → HProp) → HProp)
  | und

def SV.of0 : (t : Ty0) → t.den → SV
  | .i k, n => .i k n | .b, c => .b c | .s, z => .s z | .p, a => .p a | .sl, v => .sl v | .m, r => .m r
def unpackL0 : (ts : List Ty0) → Tup0 ts → List SV
  | [], _ => []
  | [t], x => [SV.of0 t x]
  | t :: u :: r, x => SV.of0 t x.1 :: unpackL0 (u :: r) x.2
def SV.of : (t : Ty) → t.den → SV
  | .o u, x => .of0 u x
  | .fn sh rsh, f => .fn sh rsh f
  | .clo k caps, x => .clo k [] (unpackL0 caps x)
def SV.cells : SV → List SV
  | .agg l => l
  | x => [x]

/-! ## The words of the shallow functions -/
/-- what fills one cell -/
def one : Value → Prop
  | .agg _ | .tuple _ => False
  | _ => True
def ones (l : List Value) : Prop := ∀ v ∈ l, one v
def stuckW : HProp := fun _ => False
def iteW (c : Bool) (A B : HProp) : HProp := fun h => if c = true then A h else B h
def withK {α : Type} (k : α → HProp) (f : (α → HProp) → HProp) : HProp := f k
def loopW {σ : Type} (s : σ) (body : σ → (σ → HProp) → HProp) : HProp := fun h =>
  ∃ (I : σ → H → Prop) (μ : σ → H → Nat), I s h ∧ ∀ s h, I s h → body s (fun s' h' => I s' h' ∧ μ s' h' < μ s h) h
/-- What must hold. -/
def mustW (c : Prop) (K : HProp) : HProp := fun h => c ∧ K h
def derefW (p : Option Addr) (K : Addr → HProp) : HProp := fun h => ∃ a, p = some a ∧ K a h
def loadI (k : IntKind) (a : Addr) (K : Int → HProp) : HProp := fun h =>
  match h.cell? a with | some (.int k' n) => k' = k ∧ K n h | _ => False
def loadB (a : Addr) (K : Bool → HProp) : HProp := fun h =>
  match h.cell? a with | some (.bool b) => K b h | _ => False
def loadS (a : Addr) (K : ByteArray → HProp) : HProp := fun h =>
  match h.cell? a with | some (.string b) => K b h | _ => False
def loadP (a : Addr) (K : Option Addr → HProp) : HProp := fun h =>
  match h.cell? a with | some (.pointer b) => K b h | _ => False
def loadL (a : Addr) (K : Sl → HProp) : HProp := fun h =>
  match h.cell? a with | some (.slice b l c) => K ⟨b, l, c⟩ h | _ => False
def loadM (a : Addr) (K : Option Nat → HProp) : HProp := fun h =>
  match h.cell? a with | some (.map b) => K b h | _ => False
def storeW (a : Addr) (v : Value) (K : HProp) : HProp := fun h =>
  match h a.block with
  | some (.cells c true) => a.spot = none ∧ a.off < c.length ∧ K (h.set a.block (.cells (c.set a.off v) true))
  | _ => False
def storesW (a : Addr) (l : List Value) (K : HProp) : HProp := fun h =>
  match h a.block with
  | some (.cells c true) => a.spot = none ∧ a.off + l.length ≤ c.length ∧ K (h.set a.block (.cells (c.take a.off ++ l ++ c.drop (a.off + l.length)) true))
  | _ => False
def newW (c : List Value) (K : Nat → HProp) : HProp := fun h => ∀ b, h b = none → K b (h.set b (.cells c true))
/-- cells of a row from a place on -/
def H.row? (h : H) (a : Option Addr) (n : Nat) : Option (List Value) :=
  if n = 0 then some [] else match a with
  | some a => match h a.block with
    | some (.cells c _) => if a.spot.isSome then none else if a.off + n ≤ c.length then some ((c.drop a.off).take n) else none
    | _ => none
  | none => none
def makeW (l c : Int) (z : List Value) (bytes : Nat) (K : Sl → HProp) : HProp := fun h =>
  0 ≤ l ∧ l ≤ c ∧ c * bytes ≤ 140737488355328 ∧ c ≤ 140737488355328 ∧ ∀ b, h b = none → K ⟨some ⟨b, 0, none⟩, l.toNat, c.toNat⟩ (h.set b (.cells (List.replicate c.toNat z).flatten true))
/-- append: z: an element's zero cells, bytes: its bytes, n: how many are appended, xs: their cells -/
def appendW (v : Sl) (z : List Value) (bytes n : Nat) (xs : List Value) (K : Sl → HProp) : HProp := fun h =>
  if n = 0 ∧ v.len ≤ v.cap then K v h
  else if v.len + n ≤ v.cap then
    ∃ a c, v.a = some a ∧ h a.block = some (.cells c true) ∧ a.spot = none ∧ a.off + v.len * z.length + xs.length ≤ c.length ∧
      K ⟨v.a, v.len + n, v.cap⟩ (h.set a.block (.cells (c.take (a.off + v.len * z.length) ++ xs ++ c.drop (a.off + v.len * z.length + xs.length)) true))
  else ∃ old, h.row? v.a (v.len * z.length) = some old ∧ ones old ∧ (v.len + n) * bytes ≤ 140737488355328 ∧
    ∀ cap' b, v.len + n ≤ cap' → h b = none →
      K ⟨some ⟨b, 0, none⟩, v.len + n, cap'⟩ (h.set b (.cells (old ++ xs ++ (List.replicate (cap' - (v.len + n)) z).flatten) true))
def clearW (v : Sl) (z : List Value) (K : HProp) : HProp := fun h =>
  if v.len = 0 then K h else ∃ a, v.a = some a ∧ storesW a (List.replicate v.len z).flatten K h
/-- copy: as many as both have; the cells are read ahead -/
def copyW (v x : Sl) (size : Nat) (K : Int → HProp) : HProp := fun h =>
  ∃ l, h.row? x.a (min x.len v.len * size) = some l ∧ ones l ∧ (if l = [] then K (min x.len v.len : Nat) h else ∃ a, v.a = some a ∧ storesW a l (K (min x.len v.len : Nat)) h)
def rowW (v : Sl) (size : Nat) (K : List Value → HProp) : HProp := fun h => ∃ l, h.row? v.a (v.len * size) = some l ∧ ones l ∧ K l h
def sliceW (v : Sl) (size : Nat) (lo hi : Int) (K : Sl → HProp) : HProp := fun h =>
  0 ≤ lo ∧ lo ≤ hi ∧ hi ≤ v.cap ∧ K ⟨if v.cap = lo.toNat then v.a else v.a.map (·.add (lo.toNat * size)), hi.toNat - lo.toNat, v.cap - lo.toNat⟩ h
def cutW (s : ByteArray) (lo hi : Int) (K : ByteArray → HProp) : HProp := fun h =>
  0 ≤ lo ∧ lo ≤ hi ∧ hi ≤ s.size ∧ K (s.extract lo.toNat hi.toNat) h
/-- the address of an element -/
def indexW (i : Int) (v : Sl) (size : Nat) (K : Addr → HProp) : HProp := fun h =>
  ∃ a, v.a = some a ∧ 0 ≤ i ∧ i < v.len ∧ K (a.add (i.toNat * size)) h
def byteW (i : Int) (s : ByteArray) (K : Int → HProp) : HProp := fun h =>
  ∃ hi : i.toNat < s.size, 0 ≤ i ∧ K (s[i.toNat].toNat : Int) h

def byteVals (z : ByteArray) : List Value := z.data.toList.map fun b => .int .u8 (b.toNat : Int)
def textOf (ns : List Int) : ByteArray := ⟨(ns.map fun n => UInt8.ofNat n.toNat).toArray⟩
/-- a text's bytes, in a new row -/
def bytesW (z : ByteArray) (K : Sl → HProp) : HProp := fun h => ∀ cap b, z.size ≤ cap → h b = none → K ⟨some ⟨b, 0, none⟩, z.size, cap⟩ (h.set b (.cells (byteVals z ++ List.replicate (cap - z.size) (.int .u8 0)) true))
/-- a text of bytes -/
def textW (v : Sl) (K : ByteArray → HProp) : HProp := fun h => ∃ ns : List Int, h.row? v.a v.len = some (ns.map (Value.int .u8)) ∧ K (textOf ns) h

/-! ### arithmetic -/
def add (k : IntKind) (a b : Int) : Int := k.wrap (a + b)
def sub (k : IntKind) (a b : Int) : Int := k.wrap (a - b)
def mul (k : IntKind) (a b : Int) : Int := k.wrap (a * b)
def quo (k : IntKind) (a b : Int) : Int := k.wrap (a.tdiv b)
def rem (a b : Int) : Int := a.tmod b
def shl (k : IntKind) (a b : Int) : Int := k.wrap (a * 2 ^ min b.toNat k.bits)
def shr (k : IntKind) (a b : Int) : Int := a / 2 ^ min b.toNat k.bits
def cnv (k : IntKind) (a : Int) : Int := k.wrap a
def andI (k : IntKind) (a b : Int) : Int := k.wrap (BitVec.ofInt k.bits a &&& BitVec.ofInt k.bits b).toNat
def orI (k : IntKind) (a b : Int) : Int := k.wrap (BitVec.ofInt k.bits a ||| BitVec.ofInt k.bits b).toNat
def xorI (k : IntKind) (a b : Int) : Int := k.wrap (BitVec.ofInt k.bits a ^^^ BitVec.ofInt k.bits b).toNat
def andNotI (k : IntKind) (a b : Int) : Int := k.wrap (BitVec.ofInt k.bits a &&& ~~~ BitVec.ofInt k.bits b).toNat
def notI (k : IntKind) (a : Int) : Int := xorI k (if k.signed then -1 else k.max) a
def minI (a b : Int) : Int := if b < a then b else a
def maxI (a b : Int) : Int := if a < b then b else a
def ltI (a b : Int) : Bool := decide (a < b)
def leI (a b : Int) : Bool := decide (a ≤ b)
def eqI (a b : Int) : Bool := decide (a = b)
def eqS (a b : ByteArray) : Bool := a.toList == b.toList
def ltS (a b : ByteArray) : Bool := Op.bytesLess a.toList b.toList

/-! ## The environment -/
structure Env where
  slots : List (Nat × SV)
  locs : List (Nat × List SV)
  nloc : Nat

def look {α : Type} : List (Nat × α) → Nat → Option α
  | [], _ => none
  | (k, v) :: r, n => if Nat.beq k n then some v else look r n
def Env.get (e : Env) (n : Nat) : SV := match look e.slots n with | some v => v | none => .und
def Env.loc (e : Env) (n : Nat) : List SV := match look e.locs n with | some v => v | none => []
def slotPut (l : List (Nat × SV)) (d : Option Nat) (v : SV) : List (Nat × SV) := match d with | none => l | some d => (d, v) :: l
def Env.put (e : Env) (d : Option Nat) (v : SV) : Env := { e with slots := slotPut e.slots d v }
def Env.setLoc (e : Env) (id : Nat) (c : List SV) : Env := { e with locs := (id, c) :: e.locs }

def SV.ofV : Value → SV
  | .int k n => .i k n | .bool c => .t c | .string z => .s z | .pointer a => .p a
  | .slice a l c => .sl ⟨a, l, c⟩ | .map r => .m r
  | .agg cs => .agg (cs.toList.map fun | .int k n => .i k n | .bool c => .t c | .string z => .s z | .pointer a => .p a | .slice a l c => .sl ⟨a, l, c⟩ | .map r => .m r | _ => .und)
  | _ => .und
def Env.ev (e : Env) : Operand → SV
  | .tmp t => e.get t
  | .const v => .ofV v
  | .global g => .ad ⟨g, 0, none⟩
  | .func k => .clo k [] []

/-- a leaf as it lies in memory -/
def SV.toV : SV → Option Value
  | .i k n => some (.int k n) | .b c => some (.bool c) | .t c => some (.bool c) | .s z => some (.string z) | .p a => some (.pointer a) | .ad x => some (.pointer (some x))
  | .sl v => some (.slice v.a v.len v.cap) | .m r => some (.map r)
  | _ => none
def toVs : List SV → Option (List Value)
  | [] => some []
  | x :: r => match x.toV, toVs r with | some v, some l => some (v :: l) | _, _ => none

/-! ## Types of the program -/
def leafTys (P : Program) : Nat → TypeId → Option (List Ty0)
  | 0, _ => none
  | d + 1, t => match P.underlying t with
    | some .bool => some [.b]
    | some (.int k) => some [.i k]
    | some .string => some [.s]
    | some (.pointer _) => some [.p]
    | some (.slice _) => some [.sl]
    | some (.map _ _) => some [.m]
    | some (.struct fs) => fs.toList.foldr (fun f acc => match leafTys P d f.type, acc with | some a, some l => some (a ++ l) | _, _ => none) (some [])
    | some (.array n e) => match leafTys P d e with | some l => some (List.replicate n l).flatten | none => none
    | _ => none
def noneT (P : Program) (t : TypeId) : Bool := match P.underlying t with | none => true | _ => false
def isSliceT (P : Program) (t : TypeId) : Bool := match P.underlying t with | some (.slice _) => true | _ => false
def isAggT (P : Program) (t : TypeId) : Bool := match P.underlying t with | some (.struct _) | some (.array _ _) => true | _ => false

def sizeT (P : Program) (t : TypeId) : Nat := match P.info? t with | some i => i.size | none => 0
def bytesT (P : Program) (t : TypeId) : Nat := match P.info? t with | some i => i.bytes | none => 0
def zeroT (P : Program) (t : TypeId) : Option Value := match P.info? t with | some i => i.zero | none => none
def zeroCells (P : Program) (t : TypeId) : List SV := match zeroT P t with | some v => (SV.ofV v).cells | none => [.und]
def hasZero (P : Program) (t : TypeId) : Bool := match zeroT P t with | some _ => true | none => false
def isNilP (a : Option Addr) : Bool := a.isNone
def isNilM (a : Option Nat) : Bool := a.isNone

/-! ## Packing -/
def pack0 (x : SV) : (t : Ty0) → (t.den → HProp) → HProp
  | .i k, K => match x with | .i k' n => if k = k' then K n else stuckW | _ => stuckW
  | .b, K => match x with | .b c => K c | .t c => K c | _ => stuckW
  | .s, K => match x with | .s z => K z | _ => stuckW
  | .p, K => match x with | .p a => K a | .ad y => K (some y) | _ => stuckW
  | .sl, K => match x with | .sl v => K v | _ => stuckW
  | .m, K => match x with | .m r => K r | _ => stuckW
def packL0 : List SV → (ts : List Ty0) → (Tup0 ts → HProp) → HProp
  | [], [], K => K ()
  | [x], [t], K => pack0 x t K
  | x :: y :: l, t :: u :: r, K => pack0 x t fun a => packL0 (y :: l) (u :: r) fun b => K (a, b)
  | _, _, _ => stuckW
def shape0 : List Sh0 → List SV → List SV
  | [], _ => []
  | .leaf _ :: r, l => match l with | x :: l => x :: shape0 r l | [] => []
  | .agg ts :: r, l => .agg (l.take ts.length) :: shape0 r (l.drop ts.length)
def fits0 (x : SV) : Sh0 → Bool
  | .leaf _ => match x with | .agg _ | .tup _ => false | _ => true
  | .agg ts => match x with | .agg l => Nat.beq l.length ts.length | _ => false
def fitsL0 : List SV → List Sh0 → Bool
  | [], [] => true
  | x :: r, s :: q => fits0 x s && fitsL0 r q
  | _, _ => false
def fits (x : SV) : Sh → Bool
  | .leaf _ => match x with | .agg _ | .tup _ => false | _ => true
  | .agg ts => match x with | .agg l => Nat.beq l.length ts.length | _ => false
def fitsL : List SV → List Sh → Bool
  | [], [] => true
  | x :: r, s :: q => fits x s && fitsL r q
  | _, _ => false
def retSV : List SV → SV
  | [x] => x
  | l => .tup l
def tupOf : SV → List SV
  | .tup l => l
  | _ => [.und]
def unret (l : SV) (n : Nat) : List SV := if Nat.beq n 1 then [l] else tupOf l
def cellsOf : List SV → List SV
  | [] => []
  | x :: r => x.cells ++ cellsOf r

/-- leaves laid out by their shapes -/
def shape : List Sh → List SV → List SV
  | [], _ => []
  | .leaf _ :: r, l => match l with | x :: l => x :: shape r l | [] => []
  | .agg ts :: r, l => .agg (l.take ts.length) :: shape r (l.drop ts.length)
def unpackL : (ts : List Ty) → Tup ts → List SV
  | [], _ => []
  | [t], x => [SV.of t x]
  | t :: u :: r, x => SV.of t x.1 :: unpackL (u :: r) x.2

/-- what is known of a callee -/
structure Entry where
  k : FuncId
  sh : List Sh
  rsh : List Sh
  F : Tup (tysOf sh) → (Tup (tysOf rsh) → HProp) → HProp
def findE : List Entry → FuncId → Option Entry
  | [], _ => none
  | en :: r, k => if Nat.beq en.k k then some en else findE r k

/-- a leaf; pc: what a closure does -/
def packLeaf (pc : SV → (sh rsh : List Sh0) → Option (Tup0 (tysOf0 sh) → (Tup0 (tysOf0 rsh) → HProp) → HProp)) (x : SV) : (t : Ty) → (t.den → HProp) → HProp
  | .o t, K => pack0 x t K
  | .fn sh rsh, K => match pc x sh rsh with | some f => K f | none => stuckW
  | .clo k caps, K => match x with | .clo k' [] cap => if Nat.beq k k' then packL0 cap caps K else stuckW | _ => stuckW
def packL (pc : SV → (sh rsh : List Sh0) → Option (Tup0 (tysOf0 sh) → (Tup0 (tysOf0 rsh) → HProp) → HProp)) : List SV → (ts : List Ty) → (Tup ts → HProp) → HProp
  | [], [], K => K ()
  | [x], [t], K => packLeaf pc x t K
  | x :: y :: l, t :: u :: r, K => packLeaf pc x t fun a => packL pc (y :: l) (u :: r) fun b => K (a, b)
  | _, _, _ => stuckW
deriving instance DecidableEq for Ty0
deriving instance DecidableEq for Sh0
/-- a function value that came in -/
def pcFn (x : SV) (sh rsh : List Sh0) : Option (Tup0 (tysOf0 sh) → (Tup0 (tysOf0 rsh) → HProp) → HProp) :=
  match x with
  | .fn sh' rsh' f => if h : sh' = sh ∧ rsh' = rsh then some (h.1 ▸ h.2 ▸ f) else none
  | _ => none
def Entry.callWith (pc : SV → (sh rsh : List Sh0) → Option (Tup0 (tysOf0 sh) → (Tup0 (tysOf0 rsh) → HProp) → HProp)) (en : Entry) (args : List SV) (K : SV → HProp) : HProp :=
  if fitsL args en.sh then packL pc (cellsOf args) (tysOf en.sh) fun t => en.F t fun r => K (retSV (shape en.rsh (unpackL (tysOf en.rsh) r))) else stuckW
/-- a closure, too -/
def pcClo (Φ : List Entry) (x : SV) (sh rsh : List Sh0) : Option (Tup0 (tysOf0 sh) → (Tup0 (tysOf0 rsh) → HProp) → HProp) :=
  match x with
  | .clo k first cap => match findE Φ k with
    | some en => some fun t Q => en.callWith pcFn (first ++ shape0 sh (unpackL0 (tysOf0 sh) t) ++ cap) fun v =>
        if fitsL0 (unret v rsh.length) rsh then packL0 (cellsOf (unret v rsh.length)) (tysOf0 rsh) Q else stuckW
    | none => none
  | x => pcFn x sh rsh
def Entry.call (Φ : List Entry) (en : Entry) (args : List SV) (K : SV → HProp) : HProp := en.callWith (pcClo Φ) args K

/-! ## Operations -/
def binI (op : BinOp) (k : IntKind) (a b : Int) (K : SV → HProp) : HProp :=
  match op with
  | .add => K (.i k (add k a b)) | .sub => K (.i k (sub k a b)) | .mul => K (.i k (mul k a b))
  | .quo => mustW (b ≠ 0) (K (.i k (quo k a b))) | .rem => mustW (b ≠ 0) (K (.i k (rem a b)))
  | .and => K (.i k (andI k a b)) | .or => K (.i k (orI k a b)) | .xor => K (.i k (xorI k a b)) | .andNot => K (.i k (andNotI k a b))
  | .lss => K (.b (ltI a b)) | .leq => K (.b (leI a b)) | .gtr => K (.b (ltI b a)) | .geq => K (.b (leI b a))
  | .eql => K (.b (eqI a b)) | .neq => K (.b (!eqI a b))
  | _ => stuckW
def binS (op : BinOp) (a b : ByteArray) (K : SV → HProp) : HProp :=
  match op with
  | .add => mustW (a.size + b.size ≤ 9223372036854775807) (K (.s (a ++ b)))
  | .eql => K (.b (eqS a b)) | .neq => K (.b (!eqS a b)) | .lss => K (.b (ltS a b)) | .leq => K (.b (ltS a b || eqS a b))
  | .gtr => K (.b (!(ltS a b || eqS a b))) | .geq => K (.b (!ltS a b))
  | _ => stuckW
def eqLeaves : List SV → List SV → Option (List (Int × Int))
  | [], [] => some []
  | .i k a :: r, .i k' b :: s => if k = k' then (match eqLeaves r s with | some l => some ((a, b) :: l) | none => none) else none
  | _, _ => none
def eqPairs : List (Int × Int) → Bool
  | [] => true
  | [(a, b)] => eqI a b
  | (a, b) :: r => eqI a b && eqPairs r

def loadLeaf (t : Ty0) (a : Addr) (K : SV → HProp) : HProp :=
  match t with
  | .i k => loadI k a fun x => K (.i k x)
  | .b => loadB a fun x => K (.b x)
  | .s => loadS a fun x => K (.s x)
  | .p => loadP a fun x => K (.p x)
  | .sl => loadL a fun x => K (.sl x)
  | .m => loadM a fun x => K (.m x)
def loadCs (a : Addr) : Nat → List Ty0 → (List SV → HProp) → HProp
  | _, [], K => K []
  | n, t :: r, K => loadLeaf t (a.add n) fun x => loadCs a (n + 1) r fun l => K (x :: l)
def storeCs (a : Addr) (l : List Value) (K : HProp) : HProp := match l with
  | [v] => storeW a v K
  | l => storesW a l K

def splice (c : List SV) (off : Nat) (l : List SV) : List SV := c.take off ++ l ++ c.drop (off + l.length)

def eqR (op : BinOp) (c : Bool) (K : SV → HProp) : HProp := match op with | .eql => K (.b c) | .neq => K (.b (!c)) | _ => stuckW
/-- where a load reads -/
inductive Pl where
  | heap (a : Addr)
  | loc (id off : Nat)
/-- the type of a place: its leaves; is it many cells? -/
def doLoad (P : Program) (t : TypeId) (x : SV) (e : Env) (K : Pl → SV → HProp) : HProp :=
  match leafTys P 8 t with
  | none => stuckW
  | some ts => match x with
    | .p o => derefW o fun a => at_ ts a
    | .ad a => at_ ts a
    | .loc id off => if isAggT P t then (if Nat.beq (sizeT P t) ts.length && Nat.ble (off + ts.length) (e.loc id).length && Nat.blt off (e.loc id).length then K (.loc id off) (.agg (((e.loc id).drop off).take ts.length)) else stuckW) else match (e.loc id).drop off with | x :: _ => K (.loc id off) x | [] => stuckW
    | _ => stuckW
where
  at_ (ts : List Ty0) (a : Addr) : HProp := if isAggT P t then (if Nat.beq (sizeT P t) ts.length then loadCs a 0 ts (fun l => K (.heap a) (.agg l)) else stuckW) else match ts with | [t] => loadLeaf t a (K (.heap a)) | _ => stuckW
def leafs : List SV → Bool
  | [] => true
  | x :: r => (match x with | .agg _ | .tup _ | .und => false | _ => true) && leafs r
def doStore (P : Program) (t : TypeId) (x v : SV) (e : Env) (K : Env → HProp) : HProp :=
  if Nat.beq (sizeT P t) v.cells.length && leafs v.cells && Nat.blt 0 (sizeT P t) then match x with
    | .p o => match toVs v.cells with
      | some l => derefW o fun a => storeCs a l (K e)
      | none => stuckW
    | .ad a => match toVs v.cells with
      | some l => storeCs a l (K e)
      | none => stuckW
    | .loc id off => if Nat.ble (off + v.cells.length) (e.loc id).length && Nat.blt off (e.loc id).length then K (e.setLoc id (splice (e.loc id) off v.cells)) else stuckW
    | _ => stuckW
  else stuckW

structure Ctx where
  P : Program
  Φ : List Entry
  heap : List Nat     -- slots whose blocks lie in the heap
  eqs : List (Nat × Nat) := []     -- struct types of so many whole numbers that are compared

def newLoc (e : Env) (d : Option Nat) (c : List SV) : Env :=
  { slots := slotPut e.slots d (.loc e.nloc 0), locs := (e.nloc, c) :: e.locs, nloc := e.nloc + 1 }
def isHeap (C : Ctx) (d : Option Nat) : Bool := match d with | some d => C.heap.elem d | none => false
def doNew (C : Ctx) (d : Option Nat) (c : List SV) (e : Env) (K : Env → HProp) : HProp :=
  if isHeap C d then (match toVs c with | some l => newW l fun b => K (e.put d (.ad ⟨b, 0, none⟩)) | none => stuckW) else K (newLoc e d c)

def evs (e : Env) : List Operand → List SV
  | [] => []
  | x :: r => e.ev x :: evs e r

def lenArg (P : Program) (c : Call) (e : Env) : Option Int := match P.underlying (c.argTypes.getD 0 0), evs e c.args.toList, c.argTypes.toList with
  | some (.slice _), [.sl v], [_] => some v.len
  | some .string, [.s z], [_] => some z.size
  | _, _, _ => none
def capArg (P : Program) (c : Call) (e : Env) : Option Int := match P.underlying (c.argTypes.getD 0 0), evs e c.args.toList, c.argTypes.toList with
  | some (.slice _), [.sl v], [_] => some v.cap
  | _, _, _ => none
def intsOf : List SV → Option (List Int)
  | [] => some []
  | .i _ a :: r => match intsOf r with | some l => some (a :: l) | none => none
  | _ :: _ => none
def foldI (f : Int → Int → Int) (a : Int) : List Int → Int
  | [] => a
  | b :: r => foldI f (f a b) r
def moreInts : List SV → Option (IntKind × Int × List Int)
  | .i k a :: r => match intsOf r with | some l => some (k, a, l) | none => none
  | _ => none
def twoInts : List SV → Option (IntKind × Int × Int)
  | [.i k a, .i _ b] => some (k, a, b)
  | _ => none
def appArgs (c : Call) (e : Env) : Option (TypeId × Sl × SV) := match c.argTypes.toList, evs e c.args.toList with
  | [t, _], [.sl v, x] => some (t, v, x)
  | _, _ => none
def clearArgs (P : Program) (c : Call) (e : Env) : Option (TypeId × Sl) := match c.argTypes.toList, evs e c.args.toList with
  | [t], [.sl v] => (match P.underlying t with | some (.slice el) => some (el, v) | _ => none)
  | _, _ => none
def copyArgs (P : Program) (c : Call) (e : Env) : Option (TypeId × Sl × Sl) := match c.argTypes.toList, evs e c.args.toList with
  | [t, _], [.sl v, .sl x] => (match P.underlying t with | some (.slice el) => (match P.info? el with | some _ => some (el, v, x) | none => none) | _ => none)
  | _, _ => none
def doCall (C : Ctx) (c : Call) (e : Env) (K : SV → HProp) : HProp :=
  match c.callee with
  | .builtin .len => match lenArg C.P c e with | some n => K (.i .i64 n) | none => stuckW
  | .builtin .cap => match capArg C.P c e with | some n => K (.i .i64 n) | none => stuckW
  | .builtin .min => match twoInts (evs e c.args.toList) with | some (k, a, b) => K (.i k (minI a b)) | none => match moreInts (evs e c.args.toList) with | some (k, a, l) => K (.i k (foldI minI a l)) | none => stuckW
  | .builtin .max => match twoInts (evs e c.args.toList) with | some (k, a, b) => K (.i k (maxI a b)) | none => match moreInts (evs e c.args.toList) with | some (k, a, l) => K (.i k (foldI maxI a l)) | none => stuckW
  | .builtin .append => match appArgs c e with
    | some (t, v, x) => match C.P.underlying t with
      | some (.slice el) => match toVs (zeroCells C.P el) with
        | some z => if Nat.beq (sizeT C.P el) z.length && Nat.blt 0 z.length && Nat.blt 0 (bytesT C.P el) && isSliceT C.P (c.argTypes.getD 1 0) then match x with
          | .lsl id n => match toVs (e.loc id) with
            | some l => if Nat.beq l.length (n * z.length) then appendW v z (bytesT C.P el) n l fun u => K (.sl u) else stuckW
            | none => stuckW
          | .sl u => rowW u z.length fun l => appendW v z (bytesT C.P el) u.len l fun u => K (.sl u)
          | _ => stuckW
          else stuckW
        | none => stuckW
      | _ => stuckW
    | none => stuckW
  | .builtin .clear => match clearArgs C.P c e with
    | some (el, v) => match toVs (zeroCells C.P el) with
      | some z => if Nat.beq (sizeT C.P el) z.length && Nat.blt 0 z.length then clearW v z (K (.tup [])) else stuckW
      | none => stuckW
    | none => stuckW
  | .builtin .copy => match copyArgs C.P c e with
    | some (el, v, x) => copyW v x (sizeT C.P el) fun n => K (.i .i64 n)
    | none => stuckW
  | .value f => match e.ev f with
    | .clo k first cap => match findE C.Φ k with
      | some en => en.call C.Φ (first ++ evs e c.args.toList ++ cap) K
      | none => stuckW
    | .fn sh rsh f => if fitsL0 (evs e c.args.toList) sh then packL0 (cellsOf (evs e c.args.toList)) (tysOf0 sh) fun t => f t fun r => K (retSV (shape0 rsh (unpackL0 (tysOf0 rsh) r))) else stuckW
    | _ => stuckW
  | _ => stuckW

def fieldOff (P : Program) (s : TypeId) (f : Nat) : Option (Nat × TypeId) :=
  match P.underlying s with
  | some (.struct fs) => match fs.toList[f]? with | some f => some (f.offset, f.type) | none => none
  | _ => none

/-- fields -/
def fieldV (P : Program) (ft : TypeId) (off : Nat) (l : List SV) : Option SV :=
  if noneT P ft then none else if isAggT P ft then (if Nat.ble (off + sizeT P ft) l.length then some (.agg ((l.drop off).take (sizeT P ft))) else none) else match l.drop off with | x :: _ => some x | [] => none
def aggOf : SV → Option (List SV)
  | .agg l => some l
  | _ => none
def unV : UnOp → SV → Option SV
  | .not, .b c => some (.b (!c))
  | .not, .t c => some (.t (!c))
  | .neg, .i k a => some (.i k (sub k 0 a))
  | .xor, .i k a => some (.i k (notI k a))
  | _, _ => none
def litOf : SV → Option Bool
  | .t c => some c
  | _ => none
def idxArgs (P : Program) (t : TypeId) : SV → SV → Option (Sl × Int × TypeId)
  | .sl v, .i _ n => match P.underlying t with
    | some (.slice el) => if Nat.blt 0 (sizeT P el) then some (v, n, el) else none
    | _ => none
  | _, _ => none
/-- an index into an array -/
def arrArgs (P : Program) (t : TypeId) : SV → Option (Int × Nat × TypeId)
  | .i _ n => match P.underlying t with
    | some (.array len el) => if Nat.blt 0 (sizeT P el) then some (n, len, el) else none
    | _ => none
  | _ => none
def makeArgs (P : Program) (t : TypeId) : SV → SV → Option (TypeId × Int × Int × List Value)
  | .i .i64 l, .i .i64 c => match P.underlying t with
    | some (.slice el) => match toVs (zeroCells P el) with
      | some z => if Nat.beq (sizeT P el) z.length && Nat.blt 0 z.length then some (el, l, c, z) else none
      | none => none
    | _ => none
  | _, _ => none
def sliceArgs (P : Program) (t : TypeId) (x : SV) (mx : Option Operand) : Option ((Sl × TypeId) ⊕ ByteArray) :=
  match mx with
  | some _ => none
  | none => match x with
    | .sl v => match P.underlying t with
      | some (.slice el) => if Nat.blt 0 (sizeT P el) then some (.inl (v, el)) else none
      | _ => none
    | .s z => match P.underlying t with
      | some .string => some (.inr z)
      | _ => none
    | _ => none
def buildSArgs (P : Program) (t : TypeId) (n : Nat) : Option TypeId := match P.underlying t with
  | some (.slice el) => if Nat.ble (n * sizeT P el) 16777216 && Nat.blt 0 (sizeT P el) && Nat.beq (zeroCells P el).length (sizeT P el) && hasZero P el then some el else none
  | _ => none
def byteArgs (P : Program) (t : TypeId) : SV → SV → Option (ByteArray × Int)
  | .s z, .i _ n => match P.underlying t with | some .string => some (z, n) | _ => none
  | _, _ => none
def tupAt : SV → Nat → Option SV
  | .tup l, n => match l.drop n with | v :: _ => some v | [] => none
  | _, _ => none
def convArgs (P : Program) (src dst : TypeId) : SV → Option (IntKind × Int)
  | .i _ n => match P.underlying src, P.underlying dst with | some _, some (.int k) => some (k, n) | _, _ => none
  | _ => none
/-- between texts and bytes; true: to bytes -/
def convBS (P : Program) (src dst : TypeId) : Option (TypeId × Bool) :=
  match P.underlying src, P.underlying dst with
  | some .string, some (.slice e) => (match P.underlying e with | some (.int .u8) => some (e, true) | _ => none)
  | some (.slice e), some .string => (match P.underlying e with | some (.int .u8) => some (e, false) | _ => none)
  | _, _ => none
def optI (e : Env) (x : Option Operand) (d : Int) : Option Int :=
  match x with | none => some d | some x => match e.ev x with | .i _ n => some n | _ => none
/-- a literal's cells: its parts laid over zeros -/
def buildC (e : Env) (place : Nat → Option (Nat × Nat)) : List (Nat × Operand) → List SV → Option (List SV)
  | [], z => if leafs z then some z else none
  | (i, x) :: r, z => match place i with
    | some (off, n) => if leafs (e.ev x).cells && Nat.beq (e.ev x).cells.length n && Nat.ble (off + n) z.length then buildC e place r (splice z off (e.ev x).cells) else none
    | none => none
def placesT (P : Program) (t : TypeId) : Option (Nat → Option (Nat × Nat)) := match P.underlying t with
  | some (.struct fs) => match fs.toList.mapM (fun f => (P.info? f.type).map fun i => (f.offset, i.size)) with
    | some pl => some fun i => pl[i]?
    | none => none
  | some (.array _ el) => match P.info? el with | some ie => some fun i => some (i * ie.size, ie.size) | none => none
  | _ => none
inductive BK where
  | ii (k : IntKind) (a b : Int) | sl (k : IntKind) (a b : Int) | sr (k : IntKind) (a b : Int) | ss (a b : ByteArray) | eq (c : Bool) | lit (c : Bool)
/-- a struct of whole numbers, cell by cell -/
def intFields (P : Program) : Nat → List Field → Bool
  | _, [] => true
  | n, f :: r => Nat.beq f.offset n && !(f.name == "_") && (match P.underlying f.type with | some (.int _) => true | _ => false) && intFields P (n + 1) r
def eqStructT (P : Program) (t : TypeId) (n : Nat) : Bool := match P.underlying t with
  | some (.struct fs) => Nat.beq fs.toList.length n && intFields P 0 fs.toList && !P.stoodInHeld t && !P.eqGuardType P.depth t
  | _ => false
def isPtrT (P : Program) (t : TypeId) : Bool := match P.underlying t with | some (.pointer _) => true | _ => false
def isMapT (P : Program) (t : TypeId) : Bool := match P.underlying t with | some (.map _ _) => true | _ => false
def isBoolT (P : Program) (t : TypeId) : Bool := match P.underlying t with | some .bool => true | _ => false
def litEq : BinOp → Bool → Option BK
  | .eql, c => some (.lit c)
  | .neq, c => some (.lit (!c))
  | _, _ => none
def memE : List (Nat × Nat) → Nat → Nat → Bool
  | [], _, _ => false
  | (t, n) :: r, u, m => (Nat.beq t u && Nat.beq n m) || memE r u m
def binKind (P : Program) (eqs : List (Nat × Nat)) (op : BinOp) (t : TypeId) : SV → SV → Option BK
  | .i k a, .i k' b => match op with
    | .shl => some (.sl k a b)
    | .shr => some (.sr k a b)
    | _ => if k = k' then some (.ii k a b) else none
  | .s a, .s b => some (.ss a b)
  | .agg a, .agg b => match eqLeaves a b with
    | some l => if memE eqs t a.length then some (.eq (eqPairs l)) else none
    | none => none
  | .p q, .p none => if isPtrT P t then some (.eq (isNilP q)) else none
  | .ad _, .p none => if isPtrT P t then litEq op false else none
  | .sl v, .sl ⟨none, _, _⟩ => if isSliceT P t then some (.eq (isNilP v.a)) else none
  | .m q, .m none => if isMapT P t then some (.eq (isNilM q)) else none
  | .b c, .b d => if isBoolT P t then some (.eq (c == d)) else none
  | .b c, .t d => if isBoolT P t then some (.eq (c == d)) else none
  | _, _ => none
def doOp (C : Ctx) (o : Oper) (e : Env) (K : Env → HProp) : HProp :=
  match o.op with
  | .move x | .assign x => K (e.put o.dst (e.ev x))
  | .pick c a b => match litOf (e.ev c) with
    | some c => K (e.put o.dst (if c then e.ev a else e.ev b))
    | none => stuckW
  | .binOp op t x y _ => match binKind C.P C.eqs op t (e.ev x) (e.ev y) with
    | some (.ii k a b) => binI op k a b fun v => K (e.put o.dst v)
    | some (.sl k a b) => mustW (0 ≤ b) (K (e.put o.dst (.i k (shl k a b))))
    | some (.sr k a b) => mustW (0 ≤ b) (K (e.put o.dst (.i k (shr k a b))))
    | some (.ss a b) => binS op a b fun v => K (e.put o.dst v)
    | some (.eq c) => eqR op c fun v => K (e.put o.dst v)
    | some (.lit c) => K (e.put o.dst (.t c))
    | none => stuckW
  | .unOp op _ x => match unV op (e.ev x) with | some v => K (e.put o.dst v) | none => stuckW
  | .convert src dst x => match convBS C.P src dst with
    | some (_, true) => match e.ev x with | .s z => bytesW z fun v => K (e.put o.dst (.sl v)) | _ => stuckW
    | some (_, false) => match e.ev x with | .sl v => textW v fun z => K (e.put o.dst (.s z)) | _ => stuckW
    | none => match convArgs C.P src dst (e.ev x) with
      | some (k, n) => K (e.put o.dst (.i k (cnv k n)))
      | none => stuckW
  | .alloc t => if leafs (zeroCells C.P t) then doNew C o.dst (zeroCells C.P t) e K else stuckW
  | .box _ x => if leafs (e.ev x).cells then doNew C o.dst (e.ev x).cells e K else stuckW
  | .fieldAddr s x f => match fieldOff C.P s f with
    | none => stuckW
    | some (off, ft) => if Nat.blt 0 (sizeT C.P ft) then match e.ev x with
      | .loc id n => K (e.put o.dst (.loc id (n + off)))
      | .p q => derefW q fun a => K (e.put o.dst (.ad (a.add off)))
      | .ad a => K (e.put o.dst (.ad (a.add off)))
      | _ => stuckW
      else stuckW
  | .field s x f => match fieldOff C.P s f, aggOf (e.ev x) with
    | some (off, t), some l => match fieldV C.P t off l with | some v => K (e.put o.dst v) | none => stuckW
    | _, _ => stuckW
  | .load t x => doLoad C.P t (e.ev x) e fun _ v => K (e.put o.dst v)
  | .store t x y => match o.dst with | none => doStore C.P t (e.ev x) (e.ev y) e K | some _ => stuckW
  | .nilCheck x => match e.ev x with
    | .p q => derefW q fun a => K (e.put o.dst (.ad a))
    | .ad a => K (e.put o.dst (.ad a))
    | .loc id n => K (e.put o.dst (.loc id n))
    | .clo k f c => K (e.put o.dst (.clo k f c))
    | .fn sh rsh f => K (e.put o.dst (.fn sh rsh f))
    | _ => stuckW
  | .indexAddr t x y => match idxArgs C.P t (e.ev x) (e.ev y) with
    | some (v, n, el) => indexW n v (sizeT C.P el) fun a => K (e.put o.dst (.ad a))
    | none => match arrArgs C.P t (e.ev y) with
      | none => stuckW
      | some (n, len, el) => match e.ev x with
        | .loc id off => iteW (leI 0 n) (iteW (ltI n len) (K (e.put o.dst (.loc id (off + n.toNat * sizeT C.P el)))) stuckW) stuckW
        | .p q => iteW (leI 0 n) (iteW (ltI n len) (derefW q fun a => K (e.put o.dst (.ad (a.add (n.toNat * sizeT C.P el))))) stuckW) stuckW
        | .ad a => iteW (leI 0 n) (iteW (ltI n len) (K (e.put o.dst (.ad (a.add (n.toNat * sizeT C.P el))))) stuckW) stuckW
        | _ => stuckW
  | .makeSlice t l c => match makeArgs C.P t (e.ev l) (e.ev c) with
    | some (el, l, c, z) => makeW l c z (bytesT C.P el) fun v => K (e.put o.dst (.sl v))
    | none => stuckW
  | .slice t x lo hi mx => match sliceArgs C.P t (e.ev x) mx with
    | some (.inl (v, el)) => match optI e lo 0, optI e hi v.len with
      | some l, some h => sliceW v (sizeT C.P el) l h fun u => K (e.put o.dst (.sl u))
      | _, _ => stuckW
    | some (.inr z) => match optI e lo 0, optI e hi z.size with
      | some l, some h => cutW z l h fun u => K (e.put o.dst (.s u))
      | _, _ => stuckW
    | none => stuckW
  | .build t parts => match placesT C.P t, zeroT C.P t with
    | some place, some _ => match buildC e place parts.toList (zeroCells C.P t) with
      | some l => K (e.put o.dst (.agg l))
      | none => stuckW
    | _, _ => stuckW
  | .buildSlice t n parts => match buildSArgs C.P t n with
    | some el => match buildC e (fun i => some (i * sizeT C.P el, sizeT C.P el)) parts.toList (List.replicate n (zeroCells C.P el)).flatten with
      | some l => if isHeap C o.dst then (match toVs l with | some l => newW l fun b => K (e.put o.dst (.sl ⟨some ⟨b, 0, none⟩, n, n⟩)) | none => stuckW)
        else K { slots := slotPut e.slots o.dst (.lsl e.nloc n), locs := (e.nloc, l) :: e.locs, nloc := e.nloc + 1 }
      | none => stuckW
    | none => stuckW
  | .index t x y => match byteArgs C.P t (e.ev x) (e.ev y) with
    | some (z, n) => byteW n z fun c => K (e.put o.dst (.i .u8 c))
    | none => stuckW
  | .extract x n => match tupAt (e.ev x) n with | some v => K (e.put o.dst v) | none => stuckW
  | .makeFunc (.func k) first cap => K (e.put o.dst (.clo k (evs e first.toList) (evs e cap.toList)))
  | .call c => doCall C c e fun v => K (e.put o.dst v)
  | _ => stuckW

/-- a builtin that only gives a value -/
def isNB : Builtin → Bool
  | .len | .cap | .min | .max => true
  | _ => false
/-- operations that give a value and leave the world alone -/
def isN (P : Program) : Op → Bool
  | .convert src dst _ => (convBS P src dst).isNone
  | .move _ | .assign _ | .pick .. | .binOp .. | .unOp .. | .fieldAddr .. | .field .. | .nilCheck _ | .indexAddr .. | .index .. | .extract .. | .makeFunc .. | .slice .. | .build .. => true
  | .call c => match c.callee with | .builtin b => isNB b | _ => false
  | _ => false
def dstOf (ops : Array Oper) (j : Nat) : Option Nat := match ops.toList[j]? with | some o => o.dst | none => none

def doOps (C : Ctx) (ops : Array Oper) : List Oper → Env → (Env → HProp) → HProp
  | [], e, K => K e
  | o :: rest, e, K => match o.guard with
    | none => doOp C o e fun e' => doOps C ops rest e' K
    | some (j, want) => match dstOf ops j with
      | none => stuckW
      | some d => match e.get d with
        | .t c => if c = want then doOp C o e fun e' => doOps C ops rest e' K else doOps C ops rest (e.put o.dst (.tup [])) K
        | .b c => iteW c
            (if want then doOp C o (e.put (some d) (.t true)) fun e' => doOps C ops rest e' K else doOps C ops rest ((e.put (some d) (.t true)).put o.dst (.tup [])) K)
            (if want then doOps C ops rest ((e.put (some d) (.t false)).put o.dst (.tup [])) K else doOp C o (e.put (some d) (.t false)) fun e' => doOps C ops rest e' K)
        | .tup [] => doOps C ops rest (e.put o.dst (.tup [])) K
        | _ => stuckW

/-! ## Regions that leave their order open -/
def newKeys {α : Type} : Nat → List (Nat × α) → List Nat
  | 0, _ => []
  | n + 1, l => match l with | (k, _) :: r => k :: newKeys n r | [] => []

/-- cells that still read so -/
def keepsW (a : Addr) (vs : List Value) (K : HProp) : HProp := fun h => (∀ j u, vs[j]? = some u → h.cell? (a.add j) = some u) ∧ K h
def bothW (A B : HProp) : HProp := fun h => A h ∧ B h
def edgesOf (o : Oper) : List Nat := (o.after.toList.filter fun e => Region.binds .any e).map (·.on)
/-- sets of small numbers, as the bits of one -/
def maskOf : List Nat → Nat
  | [] => 0
  | i :: r => Nat.lor (Nat.shiftLeft 1 i) (maskOf r)
def hasBit (m i : Nat) : Bool := Nat.beq (Nat.land (Nat.shiftRight m i) 1) 1
def within (a b : Nat) : Bool := Nat.beq (Nat.land a b) a
def edgesM (o : Oper) : Nat := maskOf (edgesOf o)
/-- what each operation comes behind, at last -/
def closE (acc : List Nat) : List Nat → Nat
  | [] => 0
  | i :: r => Nat.lor (Nat.lor (Nat.shiftLeft 1 i) (acc.getD i 0)) (closE acc r)
def clos : List Oper → List Nat → List Nat
  | [], acc => acc
  | o :: r, acc => clos r (acc ++ [closE acc (edgesOf o)])
def depB (cl : List Nat) (j i : Nat) : Bool := hasBit (cl.getD j 0) i
def readyB (ops : List Oper) (listed : List Nat) (i : Nat) : Bool := match ops[i]? with
  | some o => !hasBit (maskOf listed) i && within (edgesM o) (maskOf listed)
  | none => false
def isLoad : Op → Bool
  | .load .. => true
  | _ => false
def firstN (P : Program) (ops : List Oper) (listed : List Nat) : List Nat → Option (Nat × Oper)
  | [] => none
  | i :: r => match ops[i]? with
    | some o => if readyB ops listed i && (isN P o.op || isLoad o.op) then some (i, o) else firstN P ops listed r
    | none => firstN P ops listed r
/-- a load that stands -/
structure Rec where
  i : Nat
  pl : Pl
  vs : List Value
/-- a record that does not come behind operation j -/
def indep (cl : List Nat) (j : Nat) : Rec → Bool
  | ⟨i, _, _⟩ => !depB cl j i
def sameW (e e' : Env) : List Rec → HProp → HProp
  | [], K => K
  | c :: r, K => match c.pl with
    | .heap a => keepsW a c.vs (sameW e e' r K)
    | .loc id _ => if (newKeys (e'.locs.length - e.locs.length) e'.locs).elem id then stuckW else sameW e e' r K
/-- an operation under its guard -/
def guarded (opsL : List Oper) (o : Oper) (e : Env) (run pass : Env → HProp) : HProp :=
  match o.guard with
  | none => run e
  | some (j, want) => match opsL[j]? with
    | none => stuckW
    | some oj => match oj.dst with
      | none => stuckW
      | some d => match e.get d with
        | .t c => if c = want then run e else pass e
        | .b c => iteW c (if want then run (e.put (some d) (.t true)) else pass (e.put (some d) (.t true))) (if want then pass (e.put (some d) (.t false)) else run (e.put (some d) (.t false)))
        | .tup [] => pass e
        | _ => stuckW
def allListed (n : Nat) (listed : List Nat) : Bool := within (maskOf (List.range n)) (maskOf listed)
def drawOps (C : Ctx) (ops : List Oper) (cl : List Nat) : Nat → List Nat → List Rec → Env → (Env → HProp) → HProp
  | 0, listed, _, e, K => if allListed ops.length listed then K e else stuckW
  | f + 1, listed, cs, e, K => match firstN C.P ops listed (List.range ops.length) with
    | some (i, o) => guarded ops o e
        (fun e => match o.op with
          | .load t x => doLoad C.P t (e.ev x) e fun pl v => match toVs v.cells with
            | some vs => drawOps C ops cl f (i :: listed) (cs ++ [⟨i, pl, vs⟩]) (e.put o.dst v) K
            | none => stuckW
          | _ => doOp C o e fun e' => drawOps C ops cl f (i :: listed) cs e' K)
        (fun e => drawOps C ops cl f (i :: listed) cs (e.put o.dst (.tup [])) K)
    | none => if allListed ops.length listed then K e else
        ((List.range ops.length).filter (readyB ops listed)).foldr (fun j acc => match ops[j]? with
          | some o => bothL (guarded ops o e
              (fun e => doOp C o e fun e' => sameW e e' (cs.filter (indep cl j)) (drawOps C ops cl f (j :: listed) (cs.filter (indep cl j)) e' K))
              (fun e => drawOps C ops cl f (j :: listed) (cs.filter (indep cl j)) (e.put o.dst (.tup [])) K)) acc
          | none => stuckO) none |>.getD stuckW
where
  bothL (A : HProp) (acc : Option HProp) : Option HProp := match acc with | none => some A | some B => some (bothW A B)
  stuckO : Option HProp := some stuckW
/-- slots on which an operation looks -/
def looksL (ops : List Oper) (o : Oper) : List Nat :=
  tmpsOf o.op.operands.toList ++ (match o.guard with
   | some (g, _) => match ops[g]? with | some o => (match o.dst with | some d => [d] | none => []) | none => []
   | none => [])
where
  tmpsOf : List Operand → List Nat
    | [] => []
    | .tmp t :: r => t :: tmpsOf r
    | _ :: r => tmpsOf r
def apartL (ops : List Oper) (x y : Oper) : Bool :=
  (match x.dst with | some d => !(looksL ops y).elem d && (match y.dst with | some e => !Nat.beq e d | none => true) | none => true) &&
  (match y.dst with | some d => !(looksL ops x).elem d | none => true)
def apartAll (ops : List Oper) (cl : List Nat) : Bool :=
  (List.range ops.length).all fun i => (List.range ops.length).all fun j => Nat.beq i j || depB cl i j || depB cl j i || match ops[i]?, ops[j]? with | some x, some y => apartL ops x y | _, _ => false
def noSelL : List Oper → Bool
  | [] => true
  | o :: r => (match o.op with | .select .. => false | _ => true) && noSelL r

/-! ## Joins -/
structure Join where
  slots : List (Nat × Sh)
  locs : List (Nat × List Ty) := []

def wrOps : List Oper → List Nat
  | [] => []
  | o :: r => match o.dst with | some d => d :: wrOps r | none => wrOps r
def writes : Code → List Nat
  | .region _ ops _ => wrOps ops.toList
  | .seq a b => writes a ++ writes b
  | .cond _ a b => writes a ++ writes b
  | .block _ a => writes a
  | .loop a => writes a
  | _ => []

def Join.tys (j : Join) : List Ty := tysOf (j.slots.map (·.2)) ++ (j.locs.map (·.2)).flatten
def slotCells (e : Env) : List (Nat × Sh) → List SV
  | [] => []
  | (n, _) :: r => (e.get n).cells ++ slotCells e r
def locCells (e : Env) : List (Nat × List Ty) → List SV
  | [] => []
  | (n, _) :: r => e.loc n ++ locCells e r
def keys {α : Type} : List (Nat × α) → List Nat
  | [] => []
  | (k, _) :: r => k :: keys r
def subset : List Nat → List Nat → Bool
  | [], _ => true
  | x :: r, l => l.elem x && subset r l
def fitsAll (e : Env) : List (Nat × Sh) → Bool
  | [] => true
  | (n, s) :: r => fits (e.get n) s && fitsAll e r
def fitsLocs (e : Env) (n0 : Nat) : List (Nat × List Ty) → Bool
  | [] => true
  | (n, ts) :: r => Nat.beq (e.loc n).length ts.length && Nat.blt n n0 && Nat.blt 0 ts.length && fitsLocs e n0 r
/-- the leaves that a join takes; what was written since it began must be among what it lays anew -/
def Join.give (j : Join) (e0 : Env) (Φ : List Entry) (wr : List Nat) (e : Env) (K : Tup j.tys → HProp) : HProp :=
  if fitsAll e j.slots && fitsLocs e e0.nloc j.locs && subset (newKeys (e.slots.length - e0.slots.length) e.slots) wr && subset ((newKeys (e.locs.length - e0.locs.length) e.locs).filter (fun n => Nat.blt n e0.nloc)) (keys j.locs) then
    packL (pcClo Φ) (slotCells e j.slots ++ locCells e j.locs) j.tys K
  else stuckW
def layLocs : List (Nat × List Ty) → List SV → List (Nat × List SV)
  | [], _ => []
  | (n, ts) :: r, l => (n, l.take ts.length) :: layLocs r (l.drop ts.length)
def tomb : List Nat → List (Nat × SV)
  | [] => []
  | n :: r => (n, .und) :: tomb r
def Join.take (j : Join) (e : Env) (wr : List Nat) (t : Tup j.tys) : Env :=
  let l := unpackL j.tys t
  { slots := (keys j.slots).zip (shape (j.slots.map (·.2)) (l.take (tysOf (j.slots.map (·.2))).length)) ++ tomb wr ++ e.slots
    locs := layLocs j.locs (l.drop (tysOf (j.slots.map (·.2))).length) ++ e.locs
    nloc := e.nloc }

inductive Ex | normal | exit (n : Nat) | ret

def size : Code → Nat
  | .seq a b => size a + size b + 1
  | .cond _ a b => size a + size b + 1
  | .block _ a => size a + 1
  | .loop a => size a + 1
  | _ => 1

def interp (C : Ctx) (ann : List (Nat × Join)) : Code → Nat → Env → (Ex → Env → HProp) → HProp
  | .skip, _, e, K => K .normal e
  | .ret, _, e, K => K .ret e
  | .exit n, _, e, K => K (.exit n) e
  | .region _ ops draw, i, e, K => if draw then (if apartAll ops.toList (clos ops.toList []) && noSelL ops.toList then match look ann i with
      | none => drawOps C ops.toList (clos ops.toList []) ops.size [] [] e (K .normal)
      | some j => withK (fun t => K .normal (j.take e (wrOps ops.toList) t)) fun k => drawOps C ops.toList (clos ops.toList []) ops.size [] [] e fun e' => j.give e C.Φ (wrOps ops.toList) e' k
      else stuckW)
    else match look ann i with
    | none => doOps C ops ops.toList e (K .normal)
    | some j => withK (fun t => K .normal (j.take e (wrOps ops.toList) t)) fun k => doOps C ops ops.toList e fun e' => j.give e C.Φ (wrOps ops.toList) e' k
  | .seq a b, i, e, K => match look ann i with
    | none => interp C ann a (i + 1) e fun x e' => match x with | .normal => interp C ann b (i + 1 + size a) e' K | x => K x e'
    | some j => withK (fun t => interp C ann b (i + 1 + size a) (j.take e (writes a) t) K) fun k =>
        interp C ann a (i + 1) e fun x e' => match x with | .normal => j.give e C.Φ (writes a) e' k | x => K x e'
  | .cond c a b, i, e, K => match e.ev c with
    | .t true => interp C ann a (i + 1) e K
    | .t false => interp C ann b (i + 1 + size a) e K
    | .b c => iteW c (interp C ann a (i + 1) e K) (interp C ann b (i + 1 + size a) e K)
    | _ => stuckW
  | .block n a, i, e, K => match look ann i with
    | none => interp C ann a (i + 1) e fun x e' => match x with | .exit m => if Nat.beq m n then K .normal e' else K x e' | x => K x e'
    | some j => withK (fun t => K .normal (j.take e (writes a) t)) fun k => interp C ann a (i + 1) e fun x e' => match x with
      | .normal => j.give e C.Φ (writes a) e' k | .exit m => if Nat.beq m n then j.give e C.Φ (writes a) e' k else K x e' | x => K x e'
  | .loop a, i, e, K => match look ann i with
    | none => stuckW
    | some j => j.give e C.Φ (writes a) e fun s => loopW s fun s k => interp C ann a (i + 1) (j.take e (writes a) s) fun x e' => match x with | .normal => j.give e C.Φ (writes a) e' k | x => K x e'
  | _, _, _, _ => stuckW

/-- what a local block holds -/
def locVal (P : Program) (t : TypeId) (e : Env) : SV → SV
  | .loc id off => if noneT P t then .und else if isAggT P t then
      (if Nat.ble (off + sizeT P t) (e.loc id).length && Nat.blt off (e.loc id).length then .agg (((e.loc id).drop off).take (sizeT P t)) else .und)
    else match (e.loc id).drop off with | x :: _ => x | [] => .und
  | _ => .und
def resVals (P : Program) (e : Env) : List ResultVar → List SV
  | [] => []
  | .tmp t :: r => e.get t :: resVals P e r
  | .cell a t :: r => locVal P t e (e.get a) :: resVals P e r

def noUnd : List SV → Bool
  | [] => true
  | x :: r => (match x with | .und => false | _ => true) && noUnd r
def interpF (C : Ctx) (fn : Func) (ann : List (Nat × Join)) (sh rsh : List Sh) (t : Tup (tysOf sh)) (Q : Tup (tysOf rsh) → HProp) : HProp :=
  match fn.body with
  | none => stuckW
  | some c => interp C ann c 0 ⟨(List.range sh.length).zip (shape sh (unpackL (tysOf sh) t)), [], 0⟩ fun x e => match x with
    | .exit _ => stuckW
    | _ => if noUnd (resVals C.P e fn.results.toList) && fitsL (resVals C.P e fn.results.toList) rsh then packL (pcClo C.Φ) (cellsOf (resVals C.P e fn.results.toList)) (tysOf rsh) Q else stuckW

attribute [irreducible] iteW withK loopW mustW derefW loadI loadB loadS loadP loadL loadM storeW storesW newW keepsW bothW indexW byteW makeW appendW rowW clearW copyW sliceW cutW bytesW textW byteVals textOf isNilP isNilM
  add sub mul quo rem shl shr cnv andI orI xorI andNotI notI minI maxI ltI leI eqI eqS ltS stuckW
end Go.Cz
