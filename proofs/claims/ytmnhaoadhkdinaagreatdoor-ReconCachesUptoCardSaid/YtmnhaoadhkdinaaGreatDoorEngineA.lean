/- A part of an evaluator over an abstract heap and of the proof that it is sound for the model. CONDITIONS: those that each theorem names. -/
import Derived.Recover
import Derived.Orders
import Derived.WalkKit
import Derived.Laws.StructEq
import Derived.IntWalk
/-! An evaluator of the model's code over an abstract heap. -/
namespace Go.Ai

/-! ### tries: numbers to things -/
inductive T (α : Type) where
  | e : T α
  | n (l : T α) (v : Option α) (r : T α) : T α

noncomputable def T.get {α : Type} (t : T α) : Nat → Option α :=
  T.rec (motive := fun _ => Nat → Option α) (fun _ => none)
    (fun _ v _ gl gr k => Bool.casesOn (motive := fun _ => Option α) (Nat.beq k 0)
      (Bool.casesOn (motive := fun _ => Option α) (Nat.beq (Nat.mod k 2) 1) (gr (Nat.sub (Nat.div k 2) 1)) (gl (Nat.div k 2))) v) t

noncomputable def T.setF {α : Type} : Nat → T α → Nat → α → T α
  | 0, t, _, _ => t
  | f + 1, .e, k, x =>
    match Nat.beq k 0 with
    | true => .n .e (some x) .e
    | false =>
      match Nat.beq (k % 2) 1 with
      | true => .n (T.setF f .e (k / 2) x) none .e
      | false => .n .e none (T.setF f .e (k / 2 - 1) x)
  | f + 1, .n l v r, k, x =>
    match Nat.beq k 0 with
    | true => .n l (some x) r
    | false =>
      match Nat.beq (k % 2) 1 with
      | true => .n (T.setF f l (k / 2) x) v r
      | false => .n l v (T.setF f r (k / 2 - 1) x)

noncomputable def T.set {α : Type} (t : T α) (k : Nat) (x : α) : T α := T.setF (k + 1) t k x

noncomputable def T.setList {α : Type} : T α → Nat → List α → T α
  | t, _, [] => t
  | t, k, x :: xs => T.setList (t.set k x) (k + 1) xs

/-! ### strict twins: the kernel reckons what it is handed before it goes on -/
noncomputable def natC {β : Type} (n : Nat) (k : Nat → β) : β :=
  match n with
  | 0 => k 0
  | m + 1 => k (Nat.succ m)
noncomputable def intC {β : Type} (n : Int) (k : Int → β) : β :=
  match n with
  | .ofNat m => natC m fun m => k (.ofNat m)
  | .negSucc m => natC m fun m => k (.negSucc m)
noncomputable def boolC {β : Type} (b : Bool) (k : Bool → β) : β :=
  match b with
  | true => k true
  | false => k false
noncomputable def listC {α β : Type} : List α → (List α → β) → β
  | [], k => k []
  | x :: xs, k => listC xs fun xs => k (x :: xs)
noncomputable def T.setFC {α β : Type} (f : Nat) : T α → Nat → α → (T α → β) → β :=
  Nat.rec (motive := fun _ => T α → Nat → α → (T α → β) → β) (fun t _ _ c => c t)
    (fun _ ih t k x c => T.casesOn (motive := fun _ => β) t
      (Bool.casesOn (motive := fun _ => β) (Nat.beq k 0)
        (Bool.casesOn (motive := fun _ => β) (Nat.beq (Nat.mod k 2) 1)
          (ih .e (Nat.sub (Nat.div k 2) 1) x fun t => c (.n .e none t))
          (ih .e (Nat.div k 2) x fun t => c (.n t none .e)))
        (c (.n .e (some x) .e)))
      (fun l v r => Bool.casesOn (motive := fun _ => β) (Nat.beq k 0)
        (Bool.casesOn (motive := fun _ => β) (Nat.beq (Nat.mod k 2) 1)
          (ih r (Nat.sub (Nat.div k 2) 1) x fun t => c (.n l v t))
          (ih l (Nat.div k 2) x fun t => c (.n t v r)))
        (c (.n l (some x) r)))) f
noncomputable def T.setC {α β : Type} (t : T α) (k : Nat) (x : α) (c : T α → β) : β := T.setFC (Nat.succ k) t k x c
noncomputable def T.setListC {α β : Type} : T α → Nat → List α → (T α → β) → β
  | t, _, [], c => c t
  | t, k, x :: xs, c => T.setC t k x fun t => natC (Nat.succ k) fun k => T.setListC t k xs c

/-! ### abstract values -/
inductive AV where
  | bool (b : Bool)
  | int (k : IntKind) (n : Int)
  | str (s : List UInt8)
  | nilp
  | ptr (id off : Nat)
  | gptr (g off : Nat)
  | nils
  | slice (id off eo len : Nat) (cap : Option Nat)
  | nilm
  | map (id : Nat)
  | fn (f : Fn) (first captured : List AV)
  | nilf
  | iface (t : TypeId) (v : AV)
  | nili
  | agg (cs : List AV)
  | tup (vs : List AV)
  | yl (k : Nat)
  /-- an empty slice of no room, wherever it points -/
  | hole
  deriving Inhabited

noncomputable def AV.undef : AV := .tup []

inductive AB where
  | dead
  | row (cs : T AV) (n : Nat) (es : Nat) (tg : Nat)
  | rom (cs : T AV) (n : Nat)
  | map (es : List (AV × AV × Nat)) (clock : Nat)
  | mit (m : Option Nat) (since : Nat) (seen : List Nat) (stepped : Nat)
  | loop (st : Nat) (jump : Option Code) (n : Nat) (t : T AV) (ps : List Nat) (assign body : Code)
  | defs (op : Bool)
  deriving Inhabited

abbrev Heap := T (T AB)
noncomputable def hget (h : Heap) (k : Nat) : Option AB :=
  match h.get (Nat.div k 1267650600228229401496703205376) with
  | some t => t.get (Nat.mod k 1267650600228229401496703205376)
  | none => none
noncomputable def hset (h : Heap) (k : Nat) (b : AB) : Heap :=
  match h.get (Nat.div k 1267650600228229401496703205376) with
  | some t => h.set (Nat.div k 1267650600228229401496703205376) (t.set (Nat.mod k 1267650600228229401496703205376) b)
  | none => h.set (Nat.div k 1267650600228229401496703205376) (T.e.set (Nat.mod k 1267650600228229401496703205376) b)

noncomputable def hsetC {β : Type} (h : Heap) (k : Nat) (b : AB) (c : Heap → β) : β :=
  match h.get (Nat.div k 1267650600228229401496703205376) with
  | some t => T.setC t (Nat.mod k 1267650600228229401496703205376) b fun t => T.setC h (Nat.div k 1267650600228229401496703205376) t c
  | none => T.setC T.e (Nat.mod k 1267650600228229401496703205376) b fun t => T.setC h (Nat.div k 1267650600228229401496703205376) t c

noncomputable def avC {β : Type} (v : AV) (c : AV → β) : β :=
  match v with
  | .bool b => boolC b fun b => c (.bool b)
  | .int k n => intC n fun n => c (.int k n)
  | .str s => listC s fun s => c (.str s)
  | .ptr i o => natC i fun i => natC o fun o => c (.ptr i o)
  | .gptr i o => natC o fun o => c (.gptr i o)
  | .slice i o e l cp => natC i fun i => natC o fun o => natC e fun e => natC l fun l => match cp with
    | some cp => natC cp fun cp => c (.slice i o e l (some cp))
    | none => c (.slice i o e l none)
  | .map i => natC i fun i => c (.map i)
  | .yl i => natC i fun i => c (.yl i)
  | v => c v

structure St where
  h : Heap
  fc : Nat

noncomputable def St.withH (s : St) (h : Heap) : St :=
  match s with
  | ⟨_, fc⟩ => ⟨h, fc⟩
/-- the block, reckoned as far as its head -/
noncomputable def abC {β : Type} (b : AB) (c : AB → β) : β :=
  match b with
  | .dead => c .dead
  | .row t n es tg => c (.row t n es tg)
  | .rom t n => c (.rom t n)
  | .map es k => natC k fun k => c (.map es k)
  | .mit m a s k => c (.mit m a s k)
  | .loop st j n t ps a b => c (.loop st j n t ps a b)
  | .defs o => c (.defs o)
noncomputable def St.upd (s : St) (k : Nat) (b : AB) : St :=
  match s with
  | ⟨h, fc⟩ => abC b fun b => natC k fun k => hsetC h k b fun h => ⟨h, fc⟩
inductive Rc where
  | no
  | idle
  | live (v : AV) (done : Bool)

structure Fr where
  fno : Nat
  lc : Nat
  n : Nat
  t : T AV
  df : List (AV × List AV)
  rc : Rc

noncomputable def Fr.put (fr : Fr) (dst : Option Tmp) (v : AV) : Option Fr :=
  match dst with
  | none => some fr
  | some d => match fr with
    | ⟨fno, lc, n, t, df, rc⟩ => match Nat.blt d n with
      | true => avC v fun v => T.setC t d v fun t => some ⟨fno, lc, n, t, df, rc⟩
      | false => none
noncomputable def Fr.bump (fr : Fr) (i : Nat) : Fr :=
  match fr with
  | ⟨fno, lc, n, t, df, rc⟩ => natC (lc + i) fun lc => ⟨fno, lc, n, t, df, rc⟩
noncomputable def Fr.defer (fr : Fr) (d : AV × List AV) : Fr :=
  match fr with
  | ⟨fno, lc, n, t, df, rc⟩ => ⟨fno, lc, n, t, d :: df, rc⟩
noncomputable def Fr.recovers (fr : Fr) (v : AV) : Fr :=
  match fr with
  | ⟨fno, lc, n, t, df, _⟩ => ⟨fno, lc, n, t, df, .live v true⟩

/-! ### constants -/
noncomputable def ofS : Value → Option AV
  | .bool b => some (.bool b)
  | .int k n => some (.int k n)
  | .string s => some (.str s.data.toList)
  | .pointer none => some .nilp
  | .slice none 0 0 => some .nils
  | .map none => some .nilm
  | .nilFunc => some .nilf
  | .nilIface => some .nili
  | _ => none
noncomputable def ofSs : List Value → Option (List AV)
  | [] => some []
  | v :: vs => match ofS v, ofSs vs with
    | some a, some as => some (a :: as)
    | _, _ => none
noncomputable def ofA : Value → Option AV
  | .agg cs => match ofSs cs.toList with
    | some l => some (.agg l)
    | none => none
  | v => ofS v
noncomputable def ofAs : List Value → Option (List AV)
  | [] => some []
  | v :: vs => match ofA v, ofAs vs with
    | some a, some as => some (a :: as)
    | _, _ => none
noncomputable def ofV : Value → Option AV
  | .tuple vs => match ofAs vs.toList with
    | some l => some (.tup l)
    | none => none
  | v => ofA v

noncomputable def toS : AV → Option Value
  | .bool b => some (.bool b)
  | .int k n => some (.int k n)
  | .str s => some (.string ⟨s.toArray⟩)
  | .nilp => some (.pointer none)
  | .nils => some (.slice none 0 0)
  | .nilm => some (.map none)
  | .nilf => some .nilFunc
  | .nili => some .nilIface
  | _ => none

noncomputable def runP {α : Type} (P : Program) : Sem α → Option α
  | .pure a => some a
  | .program k => runP P (k P)
  | _ => none

noncomputable def Fr.ev (fr : Fr) : Operand → Option AV
  | .tmp t => match fr.t.get t with
    | some v => some v
    | none => some .undef
  | .const v => ofV v
  | .global g => some (.gptr g 0)
  | .func f => some (.fn (.func f) [] [])

noncomputable def evs (fr : Fr) : List Operand → Option (List AV)
  | [] => some []
  | x :: xs => match fr.ev x with
    | some v => match evs fr xs with
      | some vs => some (v :: vs)
      | none => none
    | none => none

/-! ### tables -/
noncomputable def isAggT (P : Program) (t : TypeId) : Option Bool :=
  match P.underlying t with
  | some (.struct _) => some true
  | some (.array _ _) => some true
  | some _ => some false
  | none => none
noncomputable def sizeT (P : Program) (t : TypeId) : Option Nat :=
  match P.info? t with
  | some i => some i.size
  | none => none
noncomputable def bytesT (P : Program) (t : TypeId) : Option Nat :=
  match P.info? t with
  | some i => some i.bytes
  | none => none
noncomputable def zeroT (P : Program) (t : TypeId) : Option AV :=
  match P.info? t with
  | some i => match i.zero with
    | some v => ofA v
    | none => none
  | none => none

noncomputable def AV.cells : AV → List AV
  | .agg cs => cs
  | v => [v]

noncomputable def partA (P : Program) (t : TypeId) (cs : List AV) (off : Nat) : Option AV :=
  match isAggT P t with
  | some true => match sizeT P t with
    | some n => some (.agg ((cs.drop off).take n))
    | none => none
  | some false => cs[off]?
  | none => none

/-! ### equality -/
noncomputable def eqFs (P : Program) (rec : TypeId → AV → AV → Option Bool) (xs ys : List AV) : List Field → Option Bool
  | [] => some true
  | f :: fs => match f.name == "_" with
    | true => none
    | false => match partA P f.type xs f.offset, partA P f.type ys f.offset with
      | some a, some b => match rec f.type a b with
        | some true => eqFs P rec xs ys fs
        | some false => some false
        | none => none
      | _, _ => none

noncomputable def eqIn (P : Program) : Nat → TypeId → AV → AV → Option Bool
  | 0, _, _, _ => none
  | d + 1, t, x, y =>
    match P.underlying t, x, y with
    | some .bool, .bool a, .bool b => some (a == b)
    | some (.int _), .int k a, .int k' b => match decide (k = k') with
      | true => some (a == b)
      | false => none
    | some .string, .str a, .str b => some (a == b)
    | some (.pointer _), .nilp, .nilp => some true
    | some (.pointer _), .nilp, .ptr _ _ => some false
    | some (.pointer _), .ptr _ _, .nilp => some false
    | some (.interface _), .nili, .nili => some true
    | some (.interface _), .nili, .iface _ _ => some false
    | some (.interface _), .iface _ _, .nili => some false
    | some (.struct fs), .agg xs, .agg ys => match P.stoodInHeld t with
      | true => none
      | false => eqFs P (eqIn P d) xs ys fs.toList
    | some (.slice _), .nils, .nils => some true
    | some (.slice _), .nils, .slice .. => some false
    | some (.slice _), .slice .., .nils => some false
    | some (.slice _), .nils, .hole => some false
    | some (.slice _), .hole, .nils => some false
    | some (.map _ _), .nilm, .nilm => some true
    | some (.map _ _), .nilm, .map _ => some false
    | some (.map _ _), .map _, .nilm => some false
    | some (.func ..), .nilf, .nilf => some true
    | some (.func ..), .nilf, .fn .. => some false
    | some (.func ..), .fn .., .nilf => some false
    | _, _, _ => none

noncomputable def eqGuardOk (P : Program) (t : TypeId) (x y : Operand) (a b : AV) : Bool :=
  match a, b with
  | .nili, .nili => match x, y with
    | .const _, _ => true
    | _, .const _ => true
    | _, _ => false
  | .agg _, .agg _ => !P.eqGuardType P.depth t
  | _, _ => true

noncomputable def strOp (op : BinOp) (a b : List UInt8) : Option AV :=
  match op with
  | .add => match Nat.blt (a.length + b.length) 4611686018427387904 with
    | true => some (.str (a ++ b))
    | false => none
  | .eql => some (.bool (a == b))
  | .neq => some (.bool (!(a == b)))
  | .lss => some (.bool (Op.bytesLess a b))
  | .leq => some (.bool (Op.bytesLess a b || a == b))
  | .gtr => some (.bool (!(Op.bytesLess a b || a == b)))
  | .geq => some (.bool (!Op.bytesLess a b))
  | _ => none

/-- a number that lies within 63 bits is what it wraps to -/
noncomputable def inI64 (n : Int) : Bool :=
  match n with
  | .ofNat m => Nat.blt m 9223372036854775808
  | .negSucc m => Nat.blt m 9223372036854775808
noncomputable def addI64 (n : Int) : Option AV :=
  match inI64 n with
  | true => some (.int .i64 n)
  | false => some (.int .i64 (IntKind.i64.wrap n))
noncomputable def intOp (P : Program) (op : BinOp) (t : TypeId) (k k' : IntKind) (a b : Int) : Option AV :=
  match op, k, k' with
  | .add, .i64, .i64 => addI64 (Int.add a b)
  | .sub, .i64, .i64 => addI64 (Int.sub a b)
  | _, _, _ => match runP P (binOp op t (.int k a) (.int k' b)) with
  | some v => ofS v
  | none => none

noncomputable def binA (P : Program) (op : BinOp) (t : TypeId) (x y : Operand) (a b : AV) : Option AV :=
  match a, b with
  | .int k m, .int k' n => intOp P op t k k' m n
  | .str s, .str u => strOp op s u
  | a, b =>
    match op with
    | .eql => match eqGuardOk P t x y a b with
      | true => match eqIn P 100 t a b with
        | some r => some (.bool r)
        | none => none
      | false => none
    | .neq => match eqGuardOk P t x y a b with
      | true => match eqIn P 100 t a b with
        | some r => some (.bool (!r))
        | none => none
      | false => none
    | _ => none

/-! ### the operations that only look at their operands -/
noncomputable def natOf (v : AV) : Option Nat :=
  match v with
  | .int _ (.ofNat n) => some n
  | _ => none

noncomputable def overA {α : Type} : List α → List α → List α
  | _ :: cs, v :: vs => v :: overA cs vs
  | cs, _ => cs
noncomputable def fillA {α : Type} : List α → Nat → List α → List α
  | cs, 0, v => overA cs v
  | c :: cs, n + 1, v => c :: fillA cs n v
  | [], _ + 1, _ => []

noncomputable def buildParts (P : Program) (fs : List Field) : List AV → List (Nat × AV) → Option (List AV)
  | cells, [] => some cells
  | cells, (i, v) :: rest => match fs[i]? with
    | some f => match sizeT P f.type with
      | some n => match Nat.beq v.cells.length n && Nat.ble (f.offset + n) cells.length with
        | true => listC (fillA cells f.offset v.cells) fun cells => buildParts P fs cells rest
        | false => none
      | none => none
    | none => none

noncomputable def buildArr (size : Nat) : List AV → List (Nat × AV) → Option (List AV)
  | cells, [] => some cells
  | cells, (i, v) :: rest => match Nat.beq v.cells.length size && Nat.ble (i * size + size) cells.length with
    | true => listC (fillA cells (i * size) v.cells) fun cells => buildArr size cells rest
    | false => none

noncomputable def evParts (fr : Fr) : List (Nat × Operand) → Option (List (Nat × AV))
  | [] => some []
  | (i, x) :: xs => match fr.ev x, evParts fr xs with
    | some v, some vs => some ((i, v) :: vs)
    | _, _ => none

noncomputable def boundA (v : Option AV) (dflt : Nat) : Option Nat :=
  match v with
  | none => some dflt
  | some v => natOf v

noncomputable def evO (fr : Fr) : Option Operand → Option (Option AV)
  | none => some none
  | some x => match fr.ev x with
    | some v => some (some v)
    | none => none

noncomputable def boundsA (len lim : Nat) (lo hi mx : Option AV) : Option (Nat × Nat × Option Nat) :=
  match mx with
  | none => match boundA lo 0, boundA hi len with
    | some l, some h => match Nat.ble l h && Nat.ble h lim with
      | true => some (l, h, none)
      | false => none
    | _, _ => none
  | some m => match hi, natOf m with
    | some hv, some m => match boundA lo 0, natOf hv with
      | some l, some h => match Nat.ble l h && Nat.ble h m && Nat.ble m lim with
        | true => some (l, h, some m)
        | false => none
      | _, _ => none
    | _, _ => none
noncomputable def sliceStr (s : List UInt8) : Option (Nat × Nat × Option Nat) → Option AV
  | some (l, h, none) => some (.str ((s.drop l).take (Nat.sub h l)))
  | _ => none
noncomputable def sliceNil : Option Nat → Option (Nat × Nat × Option Nat) → Option AV
  | some _, some _ => some .nils
  | _, _ => none
noncomputable def sliceHole : Option Nat → Option (Nat × Nat × Option Nat) → Option AV
  | some _, some _ => some .hole
  | _, _ => none
noncomputable def sliceShut (id off eo c : Nat) : Option Nat → Option (Nat × Nat × Option Nat) → Option AV
  | some es, some (l, h, none) => some (.slice id (Nat.add off (Nat.mul l es)) eo (Nat.sub h l) (some (Nat.sub c l)))
  | some es, some (l, h, some m) => some (.slice id (Nat.add off (Nat.mul l es)) eo (Nat.sub h l) (some (Nat.sub m l)))
  | _, _ => none
noncomputable def sliceOpen (id off eo : Nat) : Option Nat → Option (Nat × Nat × Option Nat) → Option AV
  | some es, some (l, h, none) => some (.slice id (Nat.add off (Nat.mul l es)) (Nat.add eo l) (Nat.sub h l) none)
  | some es, some (l, h, some m) => some (.slice id (Nat.add off (Nat.mul l es)) eo (Nat.sub h l) (some (Nat.sub m l)))
  | _, _ => none
noncomputable def sliceD (P : Program) (lo hi mx : Option AV) : Option TypeDesc → AV → Option AV
  | some .string, .str s => sliceStr s (boundsA s.length s.length lo hi mx)
  | some (.slice e), .nils => sliceNil (sizeT P e) (boundsA 0 0 lo hi mx)
  | some (.slice e), .hole => sliceHole (sizeT P e) (boundsA 0 0 lo hi mx)
  | some (.slice e), .slice id off eo len (some c) => sliceShut id off eo c (sizeT P e) (boundsA len c lo hi mx)
  | some (.slice e), .slice id off eo len none => sliceOpen id off eo (sizeT P e) (boundsA len len lo hi mx)
  | some (.array n e), .ptr id off => sliceShut id off 0 n (sizeT P e) (boundsA n n lo hi mx)
  | _, _ => none
noncomputable def sliceA (P : Program) (t : TypeId) (x : AV) (lo hi mx : Option AV) : Option AV := sliceD P lo hi mx (P.underlying t) x

noncomputable def lenA (P : Program) (t : TypeId) (v : AV) : Option AV :=
  match P.underlying t, v with
  | some .string, .str s => some (.int .i64 s.length)
  | some (.array n _), _ => some (.int .i64 n)
  | some (.slice _), .nils => some (.int .i64 0)
  | some (.slice _), .hole => some (.int .i64 0)
  | some (.slice _), .slice _ _ _ n _ => some (.int .i64 n)
  | some (.map _ _), .nilm => some (.int .i64 0)
  | some (.pointer a), _ => match P.underlying a with
    | some (.array n _) => some (.int .i64 n)
    | _ => none
  | _, _ => none

noncomputable def convA (P : Program) (src dst : TypeId) (v : AV) : Option AV :=
  match P.underlying src, P.underlying dst, v with
  | some _, some (.int k), .int _ n => some (.int k (k.wrap n))
  | some _, some .string, .int _ n => some (.str (Utf8.encode n).data.toList)
  | some _, some .string, .str s => some (.str s)
  | _, _, _ => none

inductive Cls where
  | pure | read | alloc | heavy

noncomputable def clsCall (c : Call) : Cls :=
  match c.callee with
  | .builtin .len => .read
  | .builtin .cap => .read
  | _ => .heavy
noncomputable def clsOf (op : Op) : Cls :=
  match op with
  | .move _ => .pure
  | .assign _ => .pure
  | .pick .. => .pure
  | .build .. => .pure
  | .nilCheck _ => .pure
  | .binOp .. => .pure
  | .unOp .. => .pure
  | .makeInterface .. => .pure
  | .makeFunc .. => .pure
  | .slice .. => .read
  | .fieldAddr .. => .pure
  | .field .. => .pure
  | .indexAddr .. => .pure
  | .index .. => .pure
  | .typeAssert .. => .pure
  | .extract .. => .pure
  | .convert .. => .read
  | .load .. => .read
  | .lookup .. => .read
  | .entry _ => .read
  | .alloc _ => .alloc
  | .box .. => .alloc
  | .buildSlice .. => .alloc
  | .makeMap .. => .alloc
  | .makeSlice .. => .alloc
  | .range .. => .alloc
  | .call c => clsCall c
  | _ => .heavy

noncomputable def pPick (fr : Fr) (a b : Operand) : Option AV → Option AV
  | some (.bool true) => fr.ev a
  | some (.bool false) => fr.ev b
  | _ => none
noncomputable def someAgg : Option (List AV) → Option AV
  | some cs => some (.agg cs)
  | none => none
noncomputable def fieldsOk (P : Program) : List Field → Bool
  | [] => true
  | f :: fs => match sizeT P f.type with
    | some _ => fieldsOk P fs
    | none => false
noncomputable def pBuild2 (P : Program) (z : AV) (ps : List (Nat × AV)) : Option TypeDesc → Option AV
  | some (.struct fs) => match fieldsOk P fs.toList with
    | true => someAgg (buildParts P fs.toList z.cells ps)
    | false => none
  | some (.array _ e) => match sizeT P e with
    | some n => someAgg (buildArr n z.cells ps)
    | none => none
  | _ => none
noncomputable def pBuild (P : Program) (fr : Fr) (t : TypeId) (parts : Array (Nat × Operand)) : Option AV :=
  match zeroT P t, evParts fr parts.toList with
  | some z, some ps => pBuild2 P z ps (P.underlying t)
  | _, _ => none
noncomputable def pNil : Option AV → Option AV
  | some (.ptr i o) => some (.ptr i o)
  | some (.gptr i o) => some (.gptr i o)
  | some (.fn (.func f) a b) => some (.fn (.func f) a b)
  | some (.iface t v) => some (.iface t v)
  | _ => none
noncomputable def pBin (P : Program) (op : BinOp) (t : TypeId) (x y : Operand) : Option AV → Option AV → Option AV
  | some a, some b => binA P op t x y a b
  | _, _ => none
noncomputable def pUn2 (P : Program) (op : UnOp) : Option Value → Option AV
  | some v => match runP P (Op.unary op v) with
    | some r => ofS r
    | none => none
  | none => none
noncomputable def pUn (P : Program) (op : UnOp) : Option AV → Option AV
  | some a => pUn2 P op (toS a)
  | none => none
noncomputable def pMkI (t : TypeId) (v : Option AV) : Option TypeDesc → Option AV
  | some (.interface _) => none
  | some _ => match v with
    | some v => some (.iface t v)
    | none => none
  | none => none
noncomputable def pMkF (f : Fn) : Option (List AV) → Option (List AV) → Option AV
  | some a, some b => some (.fn f a b)
  | _, _ => none
noncomputable def pSlice (P : Program) (t : TypeId) : Option AV → Option (Option AV) → Option (Option AV) → Option (Option AV) → Option AV
  | some v, some l, some h, some m => sliceA P t v l h m
  | _, _, _, _ => none
noncomputable def pFA2 (off : Nat) : Option AV → Option AV
  | some (.ptr i o) => some (.ptr i (Nat.add o off))
  | some (.gptr i o) => some (.gptr i (Nat.add o off))
  | _ => none
noncomputable def pFA1 (P : Program) (v : Option AV) : Option Field → Option AV
  | some fd => match sizeT P fd.type with
    | some (_ + 1) => pFA2 fd.offset v
    | _ => none
  | none => none
noncomputable def pFA (P : Program) (v : Option AV) (f : Nat) : Option TypeDesc → Option AV
  | some (.struct fs) => pFA1 P v (fs.toList[f]?)
  | _ => none
noncomputable def pF1 (P : Program) (v : Option AV) : Option Field → Option AV
  | some fd => match v with
    | some (.agg cs) => partA P fd.type cs fd.offset
    | _ => none
  | none => none
noncomputable def pF (P : Program) (v : Option AV) (f : Nat) : Option TypeDesc → Option AV
  | some (.struct fs) => pF1 P v (fs.toList[f]?)
  | _ => none
noncomputable def offA (P : Program) (e : TypeId) (i off : Nat) : Option Nat :=
  match sizeT P e with
  | some es => some (Nat.add off (Nat.mul i es))
  | none => none
noncomputable def pIA3 (id : Nat) : Option Nat → Option AV
  | some o => some (.ptr id o)
  | none => none
noncomputable def pIA3g (id : Nat) : Option Nat → Option AV
  | some o => some (.gptr id o)
  | none => none
noncomputable def pIA2 (P : Program) (i : Nat) : Option TypeDesc → AV → Option AV
  | some (.slice e), .slice id off _ len _ => match Nat.blt i len with
    | true => pIA3 id (offA P e i off)
    | false => none
  | some (.array n e), .ptr id off => match Nat.blt i n with
    | true => pIA3 id (offA P e i off)
    | false => none
  | some (.array n e), .gptr id off => match Nat.blt i n with
    | true => pIA3g id (offA P e i off)
    | false => none
  | _, _ => none
noncomputable def pIA1 (P : Program) (t : TypeId) (v : AV) : Option Nat → Option AV
  | some i => pIA2 P i (P.underlying t) v
  | none => none
noncomputable def pIA (P : Program) (t : TypeId) : Option AV → Option AV → Option AV
  | some v, some i => pIA1 P t v (natOf i)
  | _, _ => none
noncomputable def pIx2 (P : Program) (i : Nat) : Option TypeDesc → AV → Option AV
  | some (.array n e), .agg cs => match Nat.blt i n, sizeT P e with
    | true, some es => partA P e cs (Nat.mul i es)
    | _, _ => none
  | some .string, .str s => match s[i]? with
    | some b => some (.int .u8 b.toNat)
    | none => none
  | _, _ => none
noncomputable def pIx1 (P : Program) (t : TypeId) (v : AV) : Option Nat → Option AV
  | some i => pIx2 P i (P.underlying t) v
  | none => none
noncomputable def pIx (P : Program) (t : TypeId) : Option AV → Option AV → Option AV
  | some v, some i => pIx1 P t v (natOf i)
  | _, _ => none
noncomputable def pTA1 (asserted : TypeId) (ok : Bool) (z : AV) : Option AV → Option AV
  | some (.iface t v) => match Nat.beq t asserted, ok with
    | true, true => some (.tup [v, .bool true])
    | true, false => some v
    | false, true => some (.tup [z, .bool false])
    | false, false => none
  | some .nili => match ok with
    | true => some (.tup [z, .bool false])
    | false => none
  | _ => none
noncomputable def pTA (P : Program) (asserted : TypeId) (ok : Bool) (v : Option AV) : Option TypeDesc → Option AV
  | some (.interface _) => none
  | some _ => match zeroT P asserted with
    | some z => pTA1 asserted ok z v
    | none => none
  | none => none
noncomputable def pEx (i : Nat) : Option AV → Option AV
  | some (.tup vs) => vs[i]?
  | _ => none

noncomputable def pureOp (P : Program) (fr : Fr) (op : Op) : Option AV :=
  match op with
  | .move x => fr.ev x
  | .assign x => fr.ev x
  | .pick c a b => pPick fr a b (fr.ev c)
  | .build t parts => pBuild P fr t parts
  | .nilCheck x => pNil (fr.ev x)
  | .binOp op t x y _ => pBin P op t x y (fr.ev x) (fr.ev y)
  | .unOp op _ x => pUn P op (fr.ev x)
  | .makeInterface t x => pMkI t (fr.ev x) (P.underlying t)
  | .makeFunc f first captured => pMkF f (evs fr first.toList) (evs fr captured.toList)
  | .slice t x lo hi mx => pSlice P t (fr.ev x) (evO fr lo) (evO fr hi) (evO fr mx)
  | .fieldAddr s x f => pFA P (fr.ev x) f (P.underlying s)
  | .field s x f => pF P (fr.ev x) f (P.underlying s)
  | .indexAddr t x ix => pIA P t (fr.ev x) (fr.ev ix)
  | .index t x ix => pIx P t (fr.ev x) (fr.ev ix)
  | .typeAssert x _ asserted ok => pTA P asserted ok (fr.ev x) (P.underlying asserted)
  | .extract t i => pEx i (fr.ev t)
  | _ => none

/-! ### reads -/
noncomputable def rowGet (cs : T AV) (off : Nat) : Nat → Option (List AV)
  | 0 => some []
  | n + 1 => match cs.get off with
    | some v => match rowGet cs (off + 1) n with
      | some vs => some (v :: vs)
      | none => none
    | none => none

noncomputable def readCells (h : Heap) (id off n : Nat) : Option (List AV) :=
  match hget h id with
  | some (.row cs m _ _) => match Nat.ble (off + n) m with
    | true => rowGet cs off n
    | false => none
  | some (.rom cs m) => match Nat.ble (off + n) m with
    | true => rowGet cs off n
    | false => none
  | _ => none

/-- The package-level variables that may be read: their cells. -/
abbrev Glob := List (Nat × List AV)
noncomputable def gget (G : Glob) (g : Nat) : Option (List AV) :=
  match G with
  | [] => none
  | (i, l) :: r => match Nat.beq i g with
    | true => some l
    | false => gget r g

noncomputable def readAt (G : Glob) (h : Heap) (v : AV) (n : Nat) : Option (List AV) :=
  match v with
  | .ptr id off => readCells h id off n
  | .gptr g off => match gget G g with
    | some l => match Nat.ble (off + n) l.length with
      | true => some ((l.drop off).take n)
      | false => none
    | none => none
  | _ => none

noncomputable def loadA (P : Program) (G : Glob) (h : Heap) (t : TypeId) (v : AV) : Option AV :=
  match isAggT P t with
  | some true => match sizeT P t with
    | some n => match readAt G h v n with
      | some cs => some (.agg cs)
      | none => none
    | none => none
  | some false => match readAt G h v 1 with
    | some [c] => some c
    | _ => none
  | none => none

noncomputable def plainV (P : Program) (t : TypeId) (v : Option AV) : Bool :=
  match P.underlying t, v with
  | some .bool, some (.bool _) => true
  | some (.int _), some (.int _ _) => true
  | some .string, some (.str _) => true
  | _, _ => false
noncomputable def plainFs (P : Program) (cs : List AV) : List Field → Bool
  | [] => true
  | f :: fs => match plainV P f.type (partA P f.type cs f.offset) with
    | true => plainFs P cs fs
    | false => false
noncomputable def keyD (P : Program) (t : TypeId) (k : AV) : Option TypeDesc → Bool
  | some (.struct fs) => match k with
    | .agg cs => plainFs P cs fs.toList
    | _ => false
  | _ => plainV P t (some k)
/-- May the value be a key of the type: of a plain kind, or a struct of such? -/
noncomputable def keyOk (P : Program) (t : TypeId) (k : AV) : Bool := keyD P t k (P.underlying t)

abbrev MEs := List (AV × AV × Nat)
/-- the place of a key, and what stands there -/
noncomputable def findK (P : Program) (t : TypeId) (k : AV) : MEs → Nat → Option (Option (Nat × AV × AV × Nat))
  | [], _ => some none
  | (k', v, b) :: es, i => match eqIn P 100 t k k' with
    | some true => some (some (i, k', v, b))
    | some false => findK P t k es (Nat.succ i)
    | none => none

noncomputable def mapOf (h : Heap) : AV → Option (List (AV × AV × Nat))
  | .nilm => some []
  | .map id => match hget h id with
    | some (.map es _) => some es
    | _ => none
  | _ => none

noncomputable def okV (ok : Bool) (v : AV) (b : Bool) : AV :=
  match ok with
  | true => .tup [v, .bool b]
  | false => v
noncomputable def rLk2 (ok : Bool) (z : AV) : Option (Option (Nat × AV × AV × Nat)) → Option AV
  | some (some (_, _, v, _)) => some (okV ok v true)
  | some none => some (okV ok z false)
  | none => none
noncomputable def rLk1 (P : Program) (kt et : TypeId) (ok : Bool) (k : AV) : Option (List (AV × AV × Nat)) → Option AV
  | some es => match keyOk P kt k, zeroT P et with
    | true, some z => rLk2 ok z (findK P kt k es 0)
    | _, _ => none
  | none => none
noncomputable def rLk (P : Program) (h : Heap) (ok : Bool) : Option TypeDesc → Option AV → Option AV → Option AV
  | some (.map kt et), some m, some k => rLk1 P kt et ok k (mapOf h m)
  | _, _, _ => none
noncomputable def rEn3 : Option (AV × AV × Nat) → Option AV
  | some e => some (.tup [e.1, e.2.1])
  | none => none
noncomputable def rEn2 (seen : List Nat) (stepped : Nat) : Option AB → Option AV
  | some (.map es clock) => match Nat.beq clock stepped, seen.getLast? with
    | true, some stamp => rEn3 (es.find? (fun e => Nat.beq e.2.2 stamp))
    | _, _ => none
  | _ => none
noncomputable def rEn1 (h : Heap) : Option AB → Option AV
  | some (.mit (some m) _ seen stepped) => rEn2 seen stepped (hget h m)
  | _ => none
noncomputable def rEn (h : Heap) : Option AV → Option AV
  | some (.ptr id 0) => rEn1 h (hget h id)
  | _ => none
noncomputable def bytesOfA : List AV → Option (List UInt8)
  | [] => some []
  | .int .u8 (.ofNat n) :: r => match Nat.blt n 256, bytesOfA r with
    | true, some l => some (UInt8.ofNat n :: l)
    | _, _ => none
  | _ :: _ => none
noncomputable def someStr : Option (List UInt8) → Option AV
  | some bs => some (.str bs)
  | none => none
noncomputable def rCvB : Option (List AV) → Option AV
  | some cs => someStr (bytesOfA cs)
  | none => none
noncomputable def isBytes (P : Program) (src dst : TypeId) : Bool :=
  match P.underlying src, P.underlying dst with
  | some (.slice e), some .string => match P.underlying e with
    | some (.int .u8) => true
    | _ => false
  | _, _ => false
noncomputable def rCv (P : Program) (h : Heap) (src dst : TypeId) : Option AV → Option AV
  | some (.slice id off _ len _) => match isBytes P src dst with
    | true => rCvB (readCells h id off len)
    | false => none
  | some .nils => match isBytes P src dst with
    | true => some (.str [])
    | false => none
  | some .hole => match isBytes P src dst with
    | true => some (.str [])
    | false => none
  | some v => convA P src dst v
  | none => none
noncomputable def rLenM : Option TypeDesc → Option AB → Option AV
  | some (.map _ _), some (.map es _) => some (.int .i64 es.length)
  | _, _ => none
noncomputable def rLen1 (P : Program) (h : Heap) (t : TypeId) : Option AV → Option AV
  | some (.map id) => rLenM (P.underlying t) (hget h id)
  | some v => lenA P t v
  | none => none
noncomputable def rLen (P : Program) (fr : Fr) (h : Heap) : Option TypeId → Option Operand → Option AV
  | some t, some x => rLen1 P h t (fr.ev x)
  | _, _ => none
noncomputable def capA : Option TypeDesc → AV → Option AV
  | some (.slice _), .nils => some (.int .i64 0)
  | some (.slice _), .hole => some (.int .i64 0)
  | some (.slice _), .slice _ _ _ _ (some c) => some (.int .i64 c)
  | _, _ => none
noncomputable def rCap (P : Program) (fr : Fr) : Option TypeId → Option Operand → Option AV
  | some t, some x => match fr.ev x with
    | some v => capA (P.underlying t) v
    | none => none
  | _, _ => none
noncomputable def rLd (P : Program) (G : Glob) (h : Heap) (t : TypeId) : Option AV → Option AV
  | some v => loadA P G h t v
  | none => none
noncomputable def rCall (P : Program) (fr : Fr) (h : Heap) (c : Call) : Option AV :=
  match c.callee with
  | .builtin .len => rLen P fr h (c.argTypes.toList[0]?) (c.args.toList[0]?)
  | .builtin .cap => rCap P fr (c.argTypes.toList[0]?) (c.args.toList[0]?)
  | _ => none

/-- a slicing beyond the length, where the block's row is known to reach so far -/
noncomputable def sliceW2 (id off eo len : Nat) (lo hi : Option AV) : Option Nat → Option AB → Option AV
  | some es, some (.row _ n es' _) => match Nat.beq es es' && Nat.blt 0 es && Nat.ble len (Nat.sub (Nat.div n es) eo) with
    | true => sliceOpen id off eo (some es) (boundsA len (Nat.sub (Nat.div n es) eo) lo hi none)
    | false => none
  | _, _ => none
noncomputable def sliceW (P : Program) (h : Heap) (lo hi : Option AV) : Option TypeDesc → AV → Option AV
  | some (.slice e), .slice id off eo len none => sliceW2 id off eo len lo hi (sizeT P e) (hget h id)
  | _, _ => none
noncomputable def rSl2 (P : Program) (h : Heap) (t : TypeId) : Option AV → Option (Option AV) → Option (Option AV) → Option (Option AV) → Option AV
  | some x, some lo, some hi, some none => sliceW P h lo hi (P.underlying t) x
  | _, _, _, _ => none
noncomputable def rSl (P : Program) (h : Heap) (t : TypeId) (x : Option AV) (lo hi mx : Option (Option AV)) : Option AV → Option AV
  | some v => some v
  | none => rSl2 P h t x lo hi mx

noncomputable def readOp (P : Program) (G : Glob) (fr : Fr) (h : Heap) (op : Op) : Option AV :=
  match op with
  | .load t a => rLd P G h t (fr.ev a)
  | .lookup t x k ok => rLk P h ok (P.underlying t) (fr.ev x) (fr.ev k)
  | .entry it => rEn h (fr.ev it)
  | .convert src dst x => rCv P h src dst (fr.ev x)
  | .slice t x lo hi mx => rSl P h t (fr.ev x) (evO fr lo) (evO fr hi) (evO fr mx) (pSlice P t (fr.ev x) (evO fr lo) (evO fr hi) (evO fr mx))
  | .call c => rCall P fr h c
  | _ => none

/-! ### new blocks -/
/-- rows of bytes bear their type's number, and one more; others bear none -/
noncomputable def tagA (P : Program) (e : TypeId) : Nat := match P.underlying e with
  | some (.int .u8) => e + 1
  | _ => 0
noncomputable def tagM (a b : Nat) : Nat := match Nat.beq a b with
  | true => a
  | false => 0
noncomputable def rowT (tg : Nat) (l : List AV) (es : Nat) : AB := T.setListC .e 0 l fun t => natC l.length fun n => natC tg fun tg => .row t n es tg
noncomputable def rowOf (l : List AV) (es : Nat) : AB := T.setListC .e 0 l fun t => natC l.length fun n => .row t n es 0

noncomputable def repl {α : Type} (l : List α) : Nat → List α
  | 0 => []
  | n + 1 => l ++ repl l n

/-- a struct whose first part is a pointer to such a struct bears its type's number, and one more; others bear none -/
noncomputable def tagS1 (P : Program) (t : TypeId) : List Field → Nat
  | f :: _ => match P.underlying f.type with
    | some (.pointer u) => match Nat.beq u t with
      | true => t + 1
      | false => 0
    | _ => 0
  | [] => 0
noncomputable def tagS (P : Program) (t : TypeId) : Nat := match P.underlying t with
  | some (.struct fs) => tagS1 P t fs.toList
  | _ => 0
noncomputable def nVar (key : Nat) : Nat → Option AV → Option (AV × AB)
  | 0, some z => some (.ptr key 0, rowOf z.cells 0)
  | tg + 1, some z => some (.ptr key 0, rowT (tg + 1) z.cells 0)
  | _, none => none
noncomputable def nBS3 (tg key len n : Nat) : Option (List AV) → Option (AV × AB)
  | some cs => some (.slice key 0 0 len (some len), rowT tg cs n)
  | none => none
noncomputable def nBS2 (tg key len : Nat) (ps : List (Nat × AV)) : Option Nat → Option AV → Option (AV × AB)
  | some n, some z => match Nat.ble (len * n) 16777216 && Nat.blt 0 n && Nat.beq z.cells.length n with
    | true => nBS3 tg key len n (buildArr n (repl z.cells len) ps)
    | false => none
  | _, _ => none
noncomputable def nBS (P : Program) (key len : Nat) : Option TypeDesc → Option (List (Nat × AV)) → Option (AV × AB)
  | some (.slice e), some ps => nBS2 (tagA P e) key len ps (sizeT P e) (zeroT P e)
  | _, _ => none
noncomputable def nMS2 (tg key l c : Nat) : Option Nat → Option Nat → Option AV → Option (AV × AB)
  | some n, some by', some z => match Nat.ble l c && Nat.ble (by' * c) 1073741824 && Nat.blt 0 n && Nat.beq z.cells.length n && Nat.ble c 1073741824 with
    | true => some (.slice key 0 0 l (some c), rowT tg (repl z.cells c) n)
    | false => none
  | _, _, _ => none
noncomputable def nMS1 (P : Program) (key : Nat) (e : TypeId) : Option Nat → Option Nat → Option (AV × AB)
  | some l, some c => nMS2 (tagA P e) key l c (sizeT P e) (bytesT P e) (zeroT P e)
  | _, _ => none
noncomputable def nMS (P : Program) (key : Nat) : Option TypeDesc → Option AV → Option AV → Option (AV × AB)
  | some (.slice e), some l, some c => nMS1 P key e (natOf l) (natOf c)
  | _, _, _ => none

noncomputable def allocOp (P : Program) (fr : Fr) (key : Nat) (op : Op) : Option (AV × AB) :=
  match op with
  | .alloc t => nVar key (tagS P t) (zeroT P t)
  | .box _ x => nVar key 0 (fr.ev x)
  | .buildSlice t len parts => nBS P key len (P.underlying t) (evParts fr parts.toList)
  | .makeMap _ none => some (.map key, .map [] 0)
  | .makeSlice t l c => nMS P key (P.underlying t) (fr.ev l) (fr.ev c)
  | _ => none

/-! ### the operations that act -/
inductive Out where
  | val (v : AV) (s : St)
  | pan (v : AV) (s : St)

abbrev Outs := Option (List Out)

noncomputable def isCell : AV → Bool
  | .agg _ => false
  | .tup _ => false
  | _ => true
noncomputable def allCell : List AV → Bool
  | [] => true
  | v :: vs => match isCell v with
    | true => allCell vs
    | false => false
noncomputable def writeCells (h : Heap) (id off : Nat) (vs : List AV) : Option Heap :=
  match hget h id with
  | some (.row cs m es tg) => match Nat.ble (off + vs.length) m && allCell vs with
    | true => T.setListC cs off vs fun cs => hsetC h id (.row cs m es tg) fun h => some h
    | false => none
  | _ => none

noncomputable def srcCells (h : Heap) (es : Nat) : AV → Option (Nat × List AV)
  | .nils => some (0, [])
  | .hole => some (0, [])
  | .slice id off _ len _ => match len with
    | 0 => some (0, [])
    | n + 1 => match readCells h id off (Nat.succ n * es) with
      | some cs => some (Nat.succ n, cs)
      | none => none
  | .str s => match Nat.beq es 1 with
    | true => some (s.length, s.map fun b => .int .u8 b.toNat)
    | false => none
  | _ => none

/-- is the zero value of the type of so many cells, more than none? and more than no bytes? -/
noncomputable def zeroOk (P : Program) (e : TypeId) (es by' : Nat) : Bool :=
  match zeroT P e with
  | some z => Nat.beq z.cells.length es && Nat.blt 0 es && Nat.blt 0 by'
  | none => false

/-- so many zero elements behind a nil slice -/
noncomputable def appendZ3 (tg : Nat) (key : Nat) (s : St) (n es : Nat) (z : AV) : Option (AV × St) :=
  match n with
  | 0 => some (.nils, s)
  | n + 1 => some (.slice key 0 0 (Nat.succ n) none, s.upd key (rowT tg (repl z.cells (Nat.succ n)) es))
noncomputable def appendZ2 (P : Program) (e : TypeId) (key : Nat) (s : St) (n es by' : Nat) : Option AV → Option (AV × St)
  | some z => match zeroOk P e es by', Nat.ble ((2 * n + 1024) * by') 281474976710656 with
    | true, true => appendZ3 (tagA P e) key s n es z
    | _, _ => none
  | none => none
noncomputable def appendZ (P : Program) (e : TypeId) (key : Nat) (s : St) (es by' : Nat) : AV → AV → Option (AV × St)
  | .nils, .int .i64 (.ofNat n) => appendZ2 P e key s n es by' (zeroT P e)
  | _, _ => none
noncomputable def appendA (P : Program) (t : TypeId) (t2 : TypeId) (key : Nat) (s : St) (a b : AV) : Option (AV × St) :=
  match P.underlying t with
  | some (.slice e) => match sizeT P e, bytesT P e, P.underlying t2 with
    | some es, some by', some (.int _) => appendZ P e key s es by' a b
    | some es, some by', some _ => match zeroOk P e es by', srcCells s.h es b with
      | true, some (n, news) =>
        match a with
        | .nils => match n with
          | 0 => some (.nils, s)
          | _ => match Nat.ble ((2 * n + 1024) * by') 281474976710656 with
            | true => some (.slice key 0 0 n none, (s.upd key (rowT (tagA P e) news es)))
            | false => none
        | .hole => match n with
          | 0 => some (.hole, s)
          | _ => match Nat.ble ((2 * n + 1024) * by') 281474976710656 with
            | true => some (.slice key 0 0 n none, (s.upd key (rowT (tagA P e) news es)))
            | false => none
        | .slice id off eo len cap =>
          match Nat.ble ((2 * (len + n) + 1024) * by') 281474976710656 with
          | false => none
          | true =>
            match n with
            | 0 => some (.slice id off eo len cap, s)
            | _ =>
              match hget s.h id with
              | some (.row _ m es' tg) =>
                match Nat.ble (off + (len + n) * es) m, cap with
                | true, none => match Nat.beq es es' && Nat.beq off (eo * es) with
                  | true => match writeCells s.h id (off + len * es) news with
                    | some h' => some (.slice id off eo (len + n) none, (s.withH h'))
                    | none => none
                  | false => none
                | fits, some c => match Nat.ble (len + n) c with
                  | true => match fits with
                    | true => match writeCells s.h id (off + len * es) news with
                      | some h' => some (.slice id off eo (len + n) (some c), (s.withH h'))
                      | none => none
                    | false => none
                  | false => match readCells s.h id off (len * es) with
                    | some old => some (.slice key 0 0 (len + n) none, (s.upd key (rowT (tagA P e) (old ++ news) es)))
                    | none => none
                | false, none => match Nat.beq es es' && Nat.beq off (eo * es) && allCell news with
                  | true => match readCells s.h id off (len * es) with
                    | some old => some (.slice key 0 0 (len + n) none, ((s.upd id .dead).upd key (rowT (tagM tg (tagA P e)) (old ++ news) es)))
                    | none => none
                  | false => none
              | some (.rom _ _) => match cap with
                | some c => match Nat.ble (len + n) c with
                  | true => none
                  | false => match readCells s.h id off (len * es) with
                    | some old => some (.slice key 0 0 (len + n) none, (s.upd key (rowT (tagA P e) (old ++ news) es)))
                    | none => none
                | none => none
              | _ => none
        | _ => none
      | _, _ => none
    | _, _, _ => none
  | _ => none

mutual
noncomputable def avEq : AV → AV → Bool
  | .bool a, .bool b => a == b
  | .int k a, .int k' b => decide (k = k') && decide (a = b)
  | .str a, .str b => decide (a = b)
  | .nilp, .nilp => true
  | .ptr i o, .ptr j p => Nat.beq i j && Nat.beq o p
  | .gptr i o, .gptr j p => Nat.beq i j && Nat.beq o p
  | .nils, .nils => true
  | .hole, .hole => true
  | .slice i o e l c, .slice j p f m d => Nat.beq i j && Nat.beq o p && Nat.beq e f && Nat.beq l m && decide (c = d)
  | .nilm, .nilm => true
  | .map i, .map j => Nat.beq i j
  | .fn f a b, .fn g c d => decide (f = g) && avsEq a c && avsEq b d
  | .nilf, .nilf => true
  | .iface t v, .iface u w => Nat.beq t u && avEq v w
  | .nili, .nili => true
  | .agg a, .agg b => avsEq a b
  | .tup a, .tup b => avsEq a b
  | _, _ => false
noncomputable def avsEq : List AV → List AV → Bool
  | [], [] => true
  | a :: l, b :: r => avEq a b && avsEq l r
  | _, _ => false
end
noncomputable def isKeyS : AV → Bool
  | .bool _ => true
  | .int _ _ => true
  | .str _ => true
  | _ => false
noncomputable def allKeyS : List AV → Bool
  | [] => true
  | v :: vs => match isKeyS v with
    | true => allKeyS vs
    | false => false
/-- the value of a plain kind, or an aggregate of such -/
noncomputable def isKey : AV → Bool
  | .agg l => allKeyS l
  | v => isKeyS v
noncomputable def setAt (es : MEs) : Nat → (AV × AV × Nat) → MEs
  | 0, x => match es with
    | [] => []
    | _ :: r => x :: r
  | n + 1, x => match es with
    | [] => []
    | e :: r => e :: setAt r n x
noncomputable def dropAt (es : MEs) : Nat → MEs
  | 0 => match es with
    | [] => []
    | _ :: r => r
  | n + 1 => match es with
    | [] => []
    | e :: r => e :: dropAt r n
noncomputable def setK2 (k v : AV) (es : MEs) (clock : Nat) : Option (Option (Nat × AV × AV × Nat)) → Option (MEs × Nat)
  | some none => listC (es ++ [(k, v, clock)]) fun es => natC (Nat.succ clock) fun c => some (es, c)
  | some (some (i, k', _, b)) => match avEq k k', isKey k with
    | true, true => listC (setAt es i (k, v, b)) fun es => some (es, clock)
    | _, _ => none
  | none => none
noncomputable def setK (P : Program) (t : TypeId) (k v : AV) (es : MEs) (clock : Nat) : Option (MEs × Nat) :=
  match keyOk P t k with
  | true => setK2 k v es clock (findK P t k es 0)
  | false => none
noncomputable def delK2 (es : MEs) : Option (Option (Nat × AV × AV × Nat)) → Option MEs
  | some none => some es
  | some (some (i, _, _, _)) => listC (dropAt es i) fun es => some es
  | none => none
noncomputable def delK (P : Program) (t : TypeId) (k : AV) (es : MEs) : Option MEs :=
  match keyOk P t k with
  | true => delK2 es (findK P t k es 0)
  | false => none

noncomputable def setStamp (v : AV) (stamp : Nat) : List (AV × AV × Nat) → Option (List (AV × AV × Nat))
  | [] => none
  | (k', v', b) :: es => match Nat.beq b stamp with
    | true => some ((k', v, b) :: es)
    | false => match setStamp v stamp es with
      | some es' => some ((k', v', b) :: es')
      | none => none

noncomputable def oneOut (v : AV) : Option St → Outs
  | some s => some [.val v s]
  | none => none
noncomputable def upH (s : St) : Option Heap → Option St
  | some h => some (s.withH h)
  | none => none
noncomputable def aSt (s : St) : Option AV → Option AV → Option Nat → Outs
  | some (.ptr id off), some v, some n => match Nat.beq v.cells.length n with
    | true => oneOut .undef (upH s (writeCells s.h id off v.cells))
    | false => none
  | _, _, _ => none
noncomputable def aMU3 (s : St) (id : Nat) : Option (List (AV × AV × Nat) × Nat) → Outs
  | some (es', c) => some [.val .undef (s.upd id (.map es' c))]
  | none => none
noncomputable def aMU2 (P : Program) (t : TypeId) (s : St) (id : Nat) (k v : AV) : Option AB → Outs
  | some (.map es clock) => aMU3 s id (setK P t k v es clock)
  | _ => none
noncomputable def aMU (P : Program) (s : St) : Option TypeDesc → Option AV → Option AV → Option AV → Outs
  | some (.map kt _), some (.map id), some k, some v => aMU2 P kt s id k v (hget s.h id)
  | _, _, _, _ => none
noncomputable def aME4 (s : St) (id clock : Nat) (z : AV) : Option (MEs × Nat) → Outs
  | some (es', c) => some [.val (.tup [z, .int .i64 clock]) (s.upd id (.map es' c))]
  | none => none
noncomputable def aME3 (P : Program) (t : TypeId) (s : St) (id : Nat) (k z : AV) (es : MEs) (clock : Nat) : Option (Option (Nat × AV × AV × Nat)) → Outs
  | some (some (_, k', v, b)) => match avEq k k', isKey k with
    | true, true => some [.val (.tup [v, .int .i64 b]) s]
    | _, _ => none
  | some none => aME4 s id clock z (setK P t k z es clock)
  | none => none
noncomputable def aME2 (P : Program) (t : TypeId) (s : St) (id : Nat) (k : AV) : Bool → Option AB → Option AV → Outs
  | true, some (.map es clock), some z => aME3 P t s id k z es clock (findK P t k es 0)
  | _, _, _ => none
noncomputable def aME (P : Program) (s : St) : Option TypeDesc → Option AV → Option AV → Outs
  | some (.map kt et), some (.map id), some k => aME2 P kt s id k (keyOk P kt k) (hget s.h id) (zeroT P et)
  | _, _, _ => none
noncomputable def aES3 (s : St) (id clock : Nat) : Option (List (AV × AV × Nat)) → Outs
  | some es' => some [.val .undef (s.upd id (.map es' clock))]
  | none => none
noncomputable def aES2 (s : St) (id : Nat) (v : AV) : Option Nat → Option AB → Outs
  | some stamp, some (.map es clock) => aES3 s id clock (setStamp v stamp es)
  | _, _ => none
noncomputable def aES (s : St) : Option AV → Option AV → Option AV → Outs
  | some (.map id), some st, some v => aES2 s id v (natOf st) (hget s.h id)
  | _, _, _ => none
noncomputable def nextOuts (s : St) (id m since : Nat) (seen : List Nat) (clock : Nat) : List (AV × AV × Nat) → List Out
  | [] => []
  | e :: r => .val (.tup [.bool true, e.1, e.2.1]) (s.upd id (.mit (some m) since (seen ++ [e.2.2]) clock)) :: nextOuts s id m since seen clock r
noncomputable def aNx4 (s : St) (id m since : Nat) (seen : List Nat) (clock : Nat) : List (AV × AV × Nat) → Outs
  | [] => some [.val (.tup [.bool false]) s]
  | l => some (nextOuts s id m since seen clock l)
noncomputable def aNx3 (s : St) (id m since : Nat) (seen : List Nat) (clock : Nat) (left : List (AV × AV × Nat)) : Outs :=
  match left.any (fun e => !Nat.blt e.2.2 since) with
  | true => none
  | false => aNx4 s id m since seen clock left
noncomputable def aNx2 (s : St) (id m since : Nat) (seen : List Nat) (last : Nat) : Option AB → Outs
  | some (.map es clock) => match !seen.isEmpty && !es.isEmpty && es.all (fun e => Nat.ble last e.2.2) with
    | true => none
    | false => aNx3 s id m since seen clock (es.filter fun e => !seen.contains e.2.2)
  | _ => none
noncomputable def aNx1 (s : St) (id : Nat) : Option AB → Outs
  | some (.mit none _ _ _) => some [.val (.tup [.bool false]) s]
  | some (.mit (some m) since seen last) => aNx2 s id m since seen last (hget s.h m)
  | _ => none
noncomputable def aNx (s : St) : Option AV → Outs
  | some (.ptr id 0) => aNx1 s id (hget s.h id)
  | _ => none
noncomputable def aPanic (s : St) : Option AV → Outs
  | some (.iface t v) => some [.pan (.iface t v) s]
  | _ => none
noncomputable def outOf : Option (AV × St) → Outs
  | some (v, s) => some [.val v s]
  | none => none
noncomputable def aApp2 (P : Program) (key : Nat) (s : St) (t t2 : TypeId) : Option AV → Option AV → Outs
  | some a, some b => outOf (appendA P t t2 key s a b)
  | _, _ => none
noncomputable def aApp (P : Program) (fr : Fr) (key : Nat) (s : St) : List TypeId → List Operand → Outs
  | [t, t2], [x, y] => aApp2 P key s t t2 (fr.ev x) (fr.ev y)
  | _, _ => none
noncomputable def aCp3 (s : St) (id off len es : Nat) : Option (Nat × List AV) → Outs
  | some (n, cs) => oneOut (.int .i64 (Nat.min n len)) (upH s (writeCells s.h id off (cs.take (Nat.min n len * es))))
  | none => none
noncomputable def aCp0 (s : St) : Option (Nat × List AV) → Outs
  | some _ => some [.val (.int .i64 0) s]
  | none => none
noncomputable def aCp2 (P : Program) (s : St) : Option TypeDesc → Option AV → Option AV → Outs
  | some (.slice e), some (.slice id off _ len _), some b => match sizeT P e with
    | some es => aCp3 s id off len es (srcCells s.h es b)
    | none => none
  | some (.slice e), some .nils, some b => match sizeT P e with
    | some es => aCp0 s (srcCells s.h es b)
    | none => none
  | some (.slice e), some .hole, some b => match sizeT P e with
    | some es => aCp0 s (srcCells s.h es b)
    | none => none
  | _, _, _ => none
noncomputable def aCp (P : Program) (fr : Fr) (s : St) : List TypeId → List Operand → Outs
  | t :: _, [x, y] => aCp2 P s (P.underlying t) (fr.ev x) (fr.ev y)
  | _, _ => none
noncomputable def aDl2 (P : Program) (t : TypeId) (s : St) (id : Nat) (k : AV) : Option AB → Outs
  | some (.map es clock) => aES3 s id clock (delK P t k es)
  | _ => none
noncomputable def aDl1 (P : Program) (s : St) : Option TypeDesc → Option AV → Option AV → Outs
  | some (.map kt _), some (.map id), some k => aDl2 P kt s id k (hget s.h id)
  | _, _, _ => none
noncomputable def aDl (P : Program) (fr : Fr) (s : St) : List TypeId → List Operand → Outs
  | t :: _, [x, y] => aDl1 P s (P.underlying t) (fr.ev x) (fr.ev y)
  | _, _ => none
noncomputable def aCl3 (s : St) (id off len : Nat) : Option AV → Option Nat → Outs
  | some z, some n => match Nat.beq z.cells.length n with
    | true => oneOut .undef (upH s (writeCells s.h id off (repl z.cells len)))
    | false => none
  | _, _ => none
noncomputable def aCl2 (P : Program) (s : St) : Option TypeDesc → Option AV → Outs
  | some (.slice e), some (.slice id off _ len _) => aCl3 s id off len (zeroT P e) (sizeT P e)
  | _, _ => none
noncomputable def aCl (P : Program) (fr : Fr) (s : St) : List TypeId → List Operand → Outs
  | t :: _, [x] => aCl2 P s (P.underlying t) (fr.ev x)
  | _, _ => none
noncomputable def ltInt (a b : Int) : Bool := decide (a < b)
noncomputable def aMx (s : St) : Option (List AV) → Outs
  | some [.int k a, .int k' b] => match decide (k = k') with
    | true => some [.val (.int k (match ltInt a b with | true => b | false => a)) s]
    | false => none
  | _ => none
noncomputable def aMn (s : St) : Option (List AV) → Outs
  | some [.int k a, .int k' b] => match decide (k = k') with
    | true => some [.val (.int k (match ltInt b a with | true => b | false => a)) s]
    | false => none
  | _ => none
/-- unsafe.SliceData -/
noncomputable def aUSD (s : St) : Option (List AV) → Outs
  | some [.nils] => some [.val .nilp s]
  | some [.slice id off _ len _] => match Nat.blt 0 len with
    | true => some [.val (.ptr id off) s]
    | false => none
  | _ => none
/-- bytes as a text -/
noncomputable def bsA : List AV → Option (List UInt8)
  | [] => some []
  | .int .u8 z :: r => match bsA r with
    | some l => some (z.toNat.toUInt8 :: l)
    | none => none
  | _ => none
noncomputable def aUS4 (s : St) (id : Nat) : Option (List UInt8) → Outs
  | some l => some [.val (.str l) (s.upd id .dead)]
  | none => none
noncomputable def aUS3 (s : St) (id : Nat) : Option (List AV) → Outs
  | some cs => aUS4 s id (bsA cs)
  | none => none
noncomputable def aUS2 (P : Program) (s : St) (id off n : Nat) (pe : TypeId) : Option AB → Outs
  | some (.row _ _ _ (t + 1)) => match P.underlying t, P.underlying pe, sizeT P t, Nat.ble n 1073741824 with
    | some (.int .u8), some (.int .u8), some 1, true => aUS3 s id (readCells s.h id off n)
    | _, _, _, _ => none
  | _ => none
noncomputable def aUS1 (P : Program) (s : St) (id off n : Nat) : Option TypeDesc → Outs
  | some (.pointer pe) => aUS2 P s id off n pe (hget s.h id)
  | _ => none
/-- unsafe.String; the bytes' block is not looked at again -/
noncomputable def aUS (P : Program) (s : St) : List TypeId → Option (List AV) → Outs
  | [_, _], some [.nilp, .int .i64 (.ofNat 0)] => some [.val (.str []) s]
  | [t1, _], some [.ptr id off, .int .i64 (.ofNat (n + 1))] => aUS1 P s id off (Nat.succ n) (P.underlying t1)
  | _, _ => none
noncomputable def aBuiltin (P : Program) (fr : Fr) (key : Nat) (s : St) (c : Call) (b : Builtin) : Outs :=
  match b with
  | .append => aApp P fr key s c.argTypes.toList c.args.toList
  | .copy => aCp P fr s c.argTypes.toList c.args.toList
  | .delete => aDl P fr s c.argTypes.toList c.args.toList
  | .clear => aCl P fr s c.argTypes.toList c.args.toList
  | .max => aMx s (evs fr c.args.toList)
  | .min => aMn s (evs fr c.args.toList)
  | .unsafeSliceData => aUSD s (evs fr c.args.toList)
  | .unsafeString => aUS P s c.argTypes.toList (evs fr c.args.toList)
  | _ => none

/-- An operation that acts, but is no call. -/
noncomputable def actOp (P : Program) (fr : Fr) (s : St) (op : Op) : Outs :=
  match op with
  | .store t a x => aSt s (fr.ev a) (fr.ev x) (sizeT P t)
  | .mapUpdate t m k v => aMU P s (P.underlying t) (fr.ev m) (fr.ev k) (fr.ev v)
  | .mapEntry t m k => aME P s (P.underlying t) (fr.ev m) (fr.ev k)
  | .entryStore _ m st v => aES s (fr.ev m) (fr.ev st) (fr.ev v)
  | .next it false => aNx s (fr.ev it)
  | .panic x => aPanic s (fr.ev x)
  | _ => none

/-- 'range' over a map: an iterator. -/
noncomputable def rangeOp (P : Program) (fr : Fr) (h : Heap) (key : Nat) : Op → Option (AV × AB)
  | .range t x => match P.underlying t, fr.ev x with
    | some (.map _ _), some .nilm => some (.ptr key 0, .mit none 0 [] 0)
    | some (.map _ _), some (.map id) => match hget h id with
      | some (.map _ clock) => some (.ptr key 0, .mit (some id) clock [] clock)
      | _ => none
    | _, _ => none
  | _ => none

/-! ### whom a call calls -/
/-- the function and all its arguments -/
noncomputable def methodA (P : Program) (t : TypeId) (v : AV) (name : String) : Option (FuncId × AV) :=
  match P.info? t with
  | some i => match i.methods.find? (·.name == name) with
    | some m => match m.path.toList, m.func with
      | [], some (f, pr) => match P.underlying t, pr, v with
        | some (.pointer _), true, v => some (f, v)
        | some (.pointer _), false, _ => none
        | some _, false, v => some (f, v)
        | _, _, _ => none
      | _, _ => none
    | none => none
  | none => none

noncomputable def target (P : Program) (fr : Fr) (c : Call) : Option (FuncId × List AV) :=
  match c.callee with
  | .value f => match fr.ev f, evs fr c.args.toList with
    | some (.fn (.func g) first captured), some as => some (g, first ++ as ++ captured)
    | _, _ => none
  | .invoke r name => match fr.ev r, evs fr c.args.toList with
    | some (.iface t v), some as => match methodA P t v name with
      | some (f, rv) => some (f, rv :: as)
      | none => none
    | _, _ => none
  | .builtin _ => none

noncomputable def deferA (fr : Fr) (c : Call) : Option (AV × List AV) :=
  match c.callee with
  | .value f => match fr.ev f, evs fr c.args.toList with
    | some (.fn (.func g) first captured), some as => some (.fn (.func g) first captured, as)
    | _, _ => none
  | _ => none

/-! ### the code -/
inductive Ex where
  | normal
  | exit (id : Nat)
  | ret
  | pan (v : AV)

abbrev Res := Option (List (Ex × Fr × St))

noncomputable def bindR (r : Res) (f : Ex → Fr → St → Res) : Res :=
  match r with
  | none => none
  | some l => go l
where
  go : List (Ex × Fr × St) → Res
    | [] => some []
    | (e, fr, s) :: rest => match f e fr s with
      | none => none
      | some a => match rest with
        | [] => some a
        | _ => match go rest with
          | none => none
          | some b => some (a ++ b)

noncomputable def outsTo (f : AV → St → Res) (fr : Fr) : List Out → Res
  | [] => some []
  | .val v s :: rest => match f v s with
    | none => none
    | some a => match rest with
      | [] => some a
      | _ => match outsTo f fr rest with
        | none => none
        | some b => some (a ++ b)
  | .pan v s :: rest => match outsTo f fr rest with
    | none => none
    | some b => some ((.pan v, fr, s) :: b)

noncomputable def wantedA (fr : Fr) (ops : Array Oper) (o : Oper) : Bool :=
  match o.guard with
  | none => true
  | some (j, want) => match ops.toList[j]? with
    | some g => match g.dst with
      | some d => match fr.t.get d with
        | some (.bool b) => b == want
        | _ => false
      | none => false
    | none => false

noncomputable def keyOf (fr : Fr) (i : Nat) : Nat := Nat.add (Nat.mul 1267650600228229401496703205376 fr.fno) (Nat.add fr.lc i)

/-- How a function is called; how a round of a range over a function is. -/
structure CallF where
  fn : FuncId → List AV → St → Outs
  yl : Nat → List AV → St → Outs
instance : CoeFun CallF fun _ => FuncId → List AV → St → Outs := ⟨CallF.fn⟩

noncomputable def callTo (call : CallF) (s : St) : Option (FuncId × List AV) → Outs
  | some (f, l) => call f l s
  | none => none
noncomputable def heavyCall (P : Program) (call : CallF) (fr : Fr) (key : Nat) (s : St) (c : Call) : Outs :=
  match c.callee with
  | .builtin b => aBuiltin P fr key s c b
  | _ => callTo call s (target P fr c)
/-- The outcomes of an operation that acts. -/
noncomputable def heavy (P : Program) (call : CallF) (fr : Fr) (key : Nat) (s : St) (op : Op) : Outs :=
  match op with
  | .call c => heavyCall P call fr key s c
  | _ => actOp P fr s op

noncomputable def putK (s : St) (k : Fr → St → Res) : Option Fr → Res
  | some fr => k fr s
  | none => none
noncomputable def putV (fr : Fr) (dst : Option Tmp) (s : St) (k : Fr → St → Res) : Option AV → Res
  | some v => putK s k (fr.put dst v)
  | none => none
noncomputable def putB (fr : Fr) (dst : Option Tmp) (s : St) (key : Nat) (k : Fr → St → Res) : Option (AV × AB) → Res
  | some (v, b) => putK (s.upd key b) k (fr.put dst v)
  | none => none
noncomputable def putO (fr : Fr) (dst : Option Tmp) (k : Fr → St → Res) : Outs → Res
  | some outs => outsTo (fun v s => putK s k (fr.put dst v)) fr outs
  | none => none
noncomputable def putD (fr : Fr) (dst : Option Tmp) (s : St) (k : Fr → St → Res) : Option (AV × List AV) → Res
  | some d => putK s k ((fr.defer d).put dst .undef)
  | none => none
noncomputable def doRecover (fr : Fr) (dst : Option Tmp) (s : St) (k : Fr → St → Res) : Rc → Res
  | .live v false => putK s k ((fr.recovers v).put dst v)
  | .no => none
  | _ => putK s k (fr.put dst .nili)
/-- a call of what a range over a function hands on -/
noncomputable def yieldT (fr : Fr) (c : Call) : Option (Nat × List AV) :=
  match c.callee with
  | .value f => match fr.ev f, evs fr c.args.toList with
    | some (.yl k), some as => some (k, as)
    | _, _ => none
  | _ => none
noncomputable def yieldTo (call : CallF) (s : St) : Option (Nat × List AV) → Outs
  | some (k, l) => call.yl k l s
  | none => none
noncomputable def orY (call : CallF) (fr : Fr) (s : St) (c : Call) : Outs → Outs
  | some l => some l
  | none => match fr.rc with
    | .no => yieldTo call s (yieldT fr c)
    | _ => none
noncomputable def oneCall (P : Program) (call : CallF) (dst : Option Tmp) (i : Nat) (fr : Fr) (s : St) (c : Call) (k : Fr → St → Res) : Res :=
  match c.callee with
  | .builtin .recover => doRecover fr dst s k fr.rc
  | _ => putO fr dst k (orY call fr s c (heavyCall P call fr (keyOf fr i) s c))
noncomputable def oneHeavy (P : Program) (call : CallF) (dst : Option Tmp) (i : Nat) (fr : Fr) (s : St) (op : Op) (k : Fr → St → Res) : Res :=
  match op with
  | .defer c => putD fr dst s k (deferA fr c)
  | .call c => oneCall P call dst i fr s c k
  | _ => putO fr dst k (actOp P fr s op)
noncomputable def newBlk (P : Program) (fr : Fr) (h : Heap) (key : Nat) (op : Op) : Option (AV × AB) :=
  match op with
  | .range .. => rangeOp P fr h key op
  | _ => allocOp P fr key op
noncomputable def oneAlloc (P : Program) (dst : Option Tmp) (i : Nat) (fr : Fr) (s : St) (op : Op) (k : Fr → St → Res) : Res :=
  putB fr dst s (keyOf fr i) k (newBlk P fr s.h (keyOf fr i) op)
/-- is there a key for each operation of the region? -/
noncomputable def keysOk (fr : Fr) (n : Nat) : Bool := Nat.ble (Nat.add fr.lc n) 1267650600228229401496703205375

/-- One operation in a region whose order is the text's. -/
noncomputable def oneOp (P : Program) (G : Glob) (call : CallF) (dst : Option Tmp) (op : Op) (i : Nat) (fr : Fr) (s : St) (k : Fr → St → Res) : Res :=
  match clsOf op with
  | .pure => putV fr dst s k (pureOp P fr op)
  | .read => putV fr dst s k (readOp P G fr s.h op)
  | .alloc => oneAlloc P dst i fr s op k
  | .heavy => oneHeavy P call dst i fr s op k

noncomputable def textOps (P : Program) (G : Glob) (call : CallF) (ops : Array Oper) : List Oper → Nat → Fr → St → Res
  | [], i, fr, s => some [(.normal, fr.bump i, s)]
  | o :: rest, i, fr, s =>
    match wantedA fr ops o with
    | false => putK s (textOps P G call ops rest (Nat.succ i)) (fr.put o.dst .undef)
    | true => oneOp P G call o.dst o.op i fr s (textOps P G call ops rest (Nat.succ i))

noncomputable def iter (f : Fr → St → Res) : Nat → Fr → St → Res
  | 0, _, _ => none
  | m + 1, fr, s => bindR (f fr s) fun e fr' s' => match e with
    | .normal => iter f m fr' s'
    | e => some [(e, fr', s')]

end Go.Ai

namespace Go.Ai

/-! ### regions that draw their order -/
noncomputable def tmpsOf : List Operand → List Nat
  | [] => []
  | .tmp t :: r => t :: tmpsOf r
  | _ :: r => tmpsOf r
noncomputable def guardTmp (ops : List Oper) (o : Oper) : List Nat :=
  match o.guard with
  | none => []
  | some (j, _) => match ops[j]? with
    | some g => match g.dst with
      | some d => [d]
      | none => []
    | none => []
noncomputable def namesOf (ops : List Oper) (o : Oper) : List Nat := tmpsOf o.op.operands.toList ++ guardTmp ops o

noncomputable def predsOf (acc : List Nat) : List Edge → Nat → Nat
  | [], s => s
  | e :: es, s => predsOf acc es (match Region.binds .any e with
    | true => s ||| 2 ^ e.on ||| acc.getD e.on 0
    | false => s)
noncomputable def befores : List Oper → List Nat → List Nat
  | [], acc => acc
  | o :: os, acc => befores os (acc ++ [predsOf acc o.after.toList 0])

noncomputable def isHeavy (o : Oper) : Bool :=
  match clsOf o.op with
  | .heavy => true
  | _ => false

/-- an operation that stands in line with all the others of its kind -/
noncomputable def isBar (o : Oper) : Bool :=
  match o.op with
  | .assign _ => true
  | _ => isHeavy o

noncomputable def hasTmp (d : Option Tmp) (l : List Nat) : Bool :=
  match d with
  | none => false
  | some d => l.any (Nat.beq d)

/-- an operation: its number, those that stand ahead of it, the number of the heavy ones among them, itself -/
abbrev DE := Nat × Nat × Nat × Oper
noncomputable def countIn (b : Nat) : List Nat → Nat
  | [] => 0
  | h :: hs => match b.testBit h with
    | true => Nat.succ (countIn b hs)
    | false => countIn b hs
noncomputable def heavyAt : Nat → List Oper → List Nat
  | _, [] => []
  | i, o :: os => match isBar o with
    | true => i :: heavyAt (Nat.succ i) os
    | false => heavyAt (Nat.succ i) os
noncomputable def entsOf (hs : List Nat) : Nat → List Oper → List Nat → List DE
  | i, o :: os, b :: bs => (i, b, countIn b hs, o) :: entsOf hs (Nat.succ i) os bs
  | _, _, _ => []
noncomputable def pickE (k : Nat) (hv : Bool) : List DE → List DE
  | [] => []
  | (i, b, st, o) :: r => match Nat.beq st k, isBar o, hv with
    | true, true, true => (i, b, st, o) :: pickE k hv r
    | true, false, false => (i, b, st, o) :: pickE k hv r
    | _, _, _ => pickE k hv r
noncomputable def stages (es : List DE) : Nat → Nat → List DE
  | 0, _ => []
  | n + 1, k => pickE k false es ++ (pickE k true es ++ stages es n (Nat.succ k))
/-- each operation as early as may be -/
noncomputable def orderOf (ops : List Oper) : List DE :=
  match heavyAt 0 ops with
  | hs => stages (entsOf hs 0 ops (befores ops [])) (Nat.succ hs.length) 0
noncomputable def covers (a b : Nat) : Bool := Nat.beq (Nat.land a b) b
/-- Each stands behind those that it must stand behind, and behind each heavy one ahead of it. -/
noncomputable def orderOk (full : Nat) : List DE → Nat → Nat → Bool
  | [], done, _ => Nat.beq done full
  | (i, b, _, o) :: r, done, hv => match done.testBit i, covers done b, covers b hv, isBar o with
    | false, true, true, true => orderOk full r (Nat.lor done (2 ^ i)) (Nat.lor hv (2 ^ i))
    | false, true, true, false => orderOk full r (Nat.lor done (2 ^ i)) hv
    | _, _, _, _ => false
/-- who writes one of these names stands ahead of operation i; or is in line, and behind it -/
noncomputable def namesOk (i b : Nat) (names : List Nat) : Nat → List Oper → List Nat → Bool
  | _, [], _ => true
  | j, o :: os, b' :: bs => match hasTmp o.dst names, b.testBit j with
    | true, false => match isBar o, b'.testBit i with
      | true, true => namesOk i b names (Nat.succ j) os bs
      | _, _ => false
    | _, _ => namesOk i b names (Nat.succ j) os bs
  | _, _ :: _, [] => false
noncomputable def sameDst : Option Tmp → Option Tmp → Bool
  | some d, some e => Nat.beq d e
  | _, _ => false
/-- who writes the same name stands behind operation i, and one of the two is in line -/
noncomputable def newName (i : Nat) (bar : Bool) (d : Option Tmp) : List Oper → List Nat → Bool
  | [], _ => true
  | o :: os, b :: bs => match sameDst d o.dst with
    | true => match b.testBit i, bar, isBar o with
      | true, false, true => newName i bar d os bs
      | true, true, _ => newName i bar d os bs
      | _, _, _ => false
    | false => newName i bar d os bs
  | _ :: _, [] => false
noncomputable def namesAll (ops : List Oper) (bs : List Nat) : Nat → List Oper → List Nat → Bool
  | _, [], _ => true
  | i, o :: os, b :: bs' => match namesOk i b (namesOf ops o) 0 ops bs, newName i (isBar o) o.dst os bs' with
    | true, true => namesAll ops bs (Nat.succ i) os bs'
    | _, _ => false
  | _, _ :: _, [] => false
noncomputable def drawOk (ops : List Oper) (order : List DE) : Bool :=
  match orderOk (Nat.sub (2 ^ ops.length) 1) order 0 0 with
  | true => match befores ops [] with
    | bs => namesAll ops bs 0 ops bs
  | false => false

/-- an operation that looks, and no more -/
noncomputable def isLight (o : Oper) : Bool :=
  match clsOf o.op with
  | .pure => true
  | .read => true
  | _ => false
noncomputable def lightAll : List Oper → Bool
  | [] => true
  | o :: os => match isLight o with
    | true => lightAll os
    | false => false
noncomputable def textOrder (ops : List Oper) : List DE := entsOf [] 0 ops (befores ops [])
/-- the text's order, where all of them look only and it may be so; else each as early as may be -/
noncomputable def theOrder (ops : List Oper) : List DE :=
  match lightAll ops with
  | true => match drawOk ops (textOrder ops) with
    | true => textOrder ops
    | false => orderOf ops
  | false => orderOf ops

abbrev Made := List (Nat × Nat × AB)
/-- the new blocks of those operations that stand ahead, where they are not there yet -/
noncomputable def addMade (b : Nat) (h : Heap) : Made → Heap
  | [] => h
  | (j, k, blk) :: r => match b.testBit j with
    | true => match hget h k with
      | none => hsetC h k blk fun h => addMade b h r
      | some _ => addMade b h r
    | false => addMade b h r
noncomputable def addAll (h : Heap) : Made → Heap
  | [] => h
  | (_, k, blk) :: r => match hget h k with
    | none => hsetC h k blk fun h => addAll h r
    | some _ => addAll h r

structure Seen where
  made : Made
  reads : List (Nat × Nat × Op × AV)

noncomputable def readsOk (P : Program) (G : Glob) (fr : Fr) (h : Heap) (made : Made) : List (Nat × Op × AV) → Bool
  | [] => true
  | (b, op, v) :: rest => match readOp P G fr (addMade b h made) op with
    | some u => match avEq u v with
      | true => readsOk P G fr h made rest
      | false => false
    | none => false
/-- those that may still stand behind the operation -/
noncomputable def readsLeft (bx : Nat) : List (Nat × Nat × Op × AV) → List (Nat × Op × AV)
  | [] => []
  | (r, b, op, v) :: rest => match bx.testBit r with
    | true => readsLeft bx rest
    | false => (b, op, v) :: readsLeft bx rest
/-- what was set aside is still unknown to the heap -/
noncomputable def asideOk (h1 h' : Heap) : Made → Bool
  | [] => true
  | (_, k, _) :: r => match hget h1 k, hget h' k with
    | none, none => asideOk h1 h' r
    | some _, some _ => asideOk h1 h' r
    | _, _ => false

noncomputable def drawOuts (f : AV → St → Res) (fr : Fr) (behind : Bool) : List Out → Res
  | [] => some []
  | .val v s :: rest => match f v s with
    | none => none
    | some a => match rest with
      | [] => some a
      | _ => match drawOuts f fr behind rest with
        | none => none
        | some b => some (a ++ b)
  | .pan v s :: rest => match behind, drawOuts f fr behind rest with
    | true, some b => some ((.pan v, fr, s) :: b)
    | _, _ => none

noncomputable def dRead (_ : Program) (_ : Glob) (o : Oper) (b i : Nat) (fr : Fr) (s : St) (z : Seen) (k : Fr → St → Seen → Res) : Option AV → Res
  | some v => putK s (fun fr s => match z with | ⟨m, r⟩ => k fr s ⟨m, (i, b, o.op, v) :: r⟩) (fr.put o.dst v)
  | none => none
noncomputable def dAlloc (o : Oper) (i key : Nat) (fr : Fr) (s : St) (z : Seen) (k : Fr → St → Seen → Res) : Option (AV × AB) → Res
  | some (v, blk) => match hget s.h key with
    | none => putK s (fun fr s => match z with | ⟨m, r⟩ => k fr s ⟨(i, key, blk) :: m, r⟩) (fr.put o.dst v)
    | some _ => none
  | none => none
noncomputable def dHeavy2 (P : Program) (G : Glob) (o : Oper) (b done : Nat) (fr : Fr) (h1 : Heap) (z : Seen) (k : Fr → St → Seen → Res) : Outs → Res
  | some outs => drawOuts (fun v s' => match readsOk P G fr s'.h z.made (readsLeft b z.reads), asideOk h1 s'.h z.made with
      | true, true => putK s' (fun fr s => k fr s z) (fr.put o.dst v)
      | _, _ => none) fr (covers b done) outs
  | none => none
noncomputable def dHeavy (P : Program) (G : Glob) (call : CallF) (o : Oper) (b i done : Nat) (fr : Fr) (s1 : St) (z : Seen) (k : Fr → St → Seen → Res) : Res :=
  match o.op with
  | .range .. => none
  | _ => dHeavy2 P G o b done fr s1.h z k (heavy P call fr (keyOf fr i) s1 o.op)
noncomputable def dOne (P : Program) (G : Glob) (call : CallF) (o : Oper) (b i done : Nat) (fr : Fr) (s : St) (z : Seen) (k : Fr → St → Seen → Res) : Res :=
  match clsOf o.op with
  | .pure => putV fr o.dst s (fun fr s => k fr s z) (pureOp P fr o.op)
  | .read => dRead P G o b i fr s z k (readOp P G fr (addMade b s.h z.made) o.op)
  | .alloc => dAlloc o i (keyOf fr i) fr s z k (allocOp P fr (keyOf fr i) o.op)
  | .heavy => dHeavy P G call o b i done fr (s.withH (addMade b s.h z.made)) z k

noncomputable def drawOps (P : Program) (G : Glob) (call : CallF) (ops : Array Oper) (n : Nat) : List DE → Nat → Fr → St → Seen → Res
  | [], _, fr, s, z => some [(.normal, fr.bump n, s.withH (addAll s.h z.made))]
  | (i, b, _, o) :: rest, done, fr, s, z =>
    match wantedA fr ops o with
    | false => putK s (fun fr s => natC (Nat.lor done (2 ^ i)) fun d => drawOps P G call ops n rest d fr s z) (fr.put o.dst .undef)
    | true => dOne P G call o b i done fr s z fun fr s z => natC (Nat.lor done (2 ^ i)) fun d => drawOps P G call ops n rest d fr s z

noncomputable def drawn (P : Program) (G : Glob) (call : CallF) (ops : Array Oper) (order : List DE) (fr : Fr) (s : St) : Res :=
  match drawOk ops.toList order with
  | true => drawOps P G call ops ops.toList.length order 0 fr s ⟨[], []⟩
  | false => none
noncomputable def region (P : Program) (G : Glob) (call : CallF) (ops : Array Oper) (draw : Bool) (fr : Fr) (s : St) : Res :=
  match keysOk fr ops.toList.length, draw with
  | true, false => textOps P G call ops ops.toList 0 fr s
  | true, true => drawn P G call ops (theOrder ops.toList) fr s
  | false, _ => none

/-! ### a range over a function -/
noncomputable def okOp (o : Oper) : Bool :=
  match o.op with
  | .defer _ => false
  | _ => true
noncomputable def okOps : List Oper → Bool
  | [] => true
  | o :: os => match okOp o with
    | true => okOps os
    | false => false
/-- code that may stand in a round -/
noncomputable def okCode : Code → Bool
  | .skip => true
  | .label _ => true
  | .exit _ => true
  | .ret => true
  | .region _ ops _ => okOps ops.toList
  | .seq a b => match okCode a with
    | true => okCode b
    | false => false
  | .cond _ a b => match okCode a with
    | true => okCode b
    | false => false
  | .block _ a => okCode a
  | .loop a => okCode a
  | _ => false
noncomputable def setPs {β : Type} (n : Nat) : List Nat → List AV → T AV → (T AV → Option β) → Option β
  | [], [], t, c => c t
  | p :: ps, v :: vs, t, c => match Nat.blt p n with
    | true => T.setC t p v fun t => setPs n ps vs t c
    | false => none
  | _, _, _, _ => none
noncomputable def resO (f : Ex → Fr → St → Outs) : List (Ex × Fr × St) → Outs
  | [] => some []
  | (e, fr, s) :: rest => match f e fr s with
    | none => none
    | some a => match rest with
      | [] => some a
      | _ => match resO f rest with
        | none => none
        | some b => some (a ++ b)
/-- a round's end -/
noncomputable def endR (k : Nat) (e : Ex) (s : St) : Outs :=
  match hget s.h k with
  | some (.loop _ _ n t ps a b) => match e with
    | .normal => some [.val (.bool true) (s.upd k (.loop 0 none n t ps a b))]
    | .ret => some [.val (.bool false) (s.upd k (.loop 2 (some .ret) n t ps a b))]
    | .exit id => some [.val (.bool false) (s.upd k (.loop 2 (some (.exit id)) n t ps a b))]
    | .pan _ => none
  | _ => none
/-- the function that is ranged over has come back -/
noncomputable def endL (k : Nat) (fr : Fr) (s : St) : Res :=
  match hget s.h k with
  | some (.loop st j n t ps a b) => match Nat.beq st 1, j with
    | false, none => some [(.normal, fr, s.upd k (.loop 3 none n t ps a b))]
    | false, some .ret => some [(.ret, fr, s.upd k (.loop 3 (some .ret) n t ps a b))]
    | false, some (.exit id) => some [(.exit id, fr, s.upd k (.loop 3 (some (.exit id)) n t ps a b))]
    | _, _ => none
  | _ => none
noncomputable def rangeE (k : Nat) (fr : Fr) : Outs → Res
  | some outs => outsTo (fun _ s => endL k fr s) fr outs
  | none => none
noncomputable def hasBody (P : Program) (f : Nat) : Bool :=
  match P.funcs.toList[f]? with
  | some fn => match fn.body with
    | some _ => true
    | none => false
  | none => false
noncomputable def rangeG (P : Program) (call : CallF) (ps : Array Tmp) (a b : Code) (fr : Fr) (s : St) : Option AV → Res
  | some (.fn (.func gf) first captured) => match hasBody P gf with
    | true => natC (keyOf fr 0) fun kd => natC (keyOf fr 1) fun kl =>
      rangeE kl ((fr.bump 2).defer (.yl kd, [])) (call gf (first ++ [.yl kl] ++ captured) ((s.upd kd (.defs true)).upd kl (.loop 0 none fr.n fr.t ps.toList a b)))
    | false => none
  | _ => none
noncomputable def rangeF (P : Program) (call : CallF) (g : Operand) (ps : Array Tmp) (a b : Code) (fr : Fr) (s : St) : Res :=
  match fr.rc, keysOk fr 2 with
  | .no, true => rangeG P call ps a b fr s (fr.ev g)
  | _, _ => none

noncomputable def code (P : Program) (G : Glob) (call : CallF) (m : Nat) : Code → Fr → St → Res
  | .skip, fr, s => some [(.normal, fr, s)]
  | .label _, fr, s => some [(.normal, fr, s)]
  | .region _ ops draw, fr, s => region P G call ops draw fr s
  | .seq a b, fr, s => bindR (code P G call m a fr s) fun e fr' s' => match e with
    | .normal => code P G call m b fr' s'
    | e => some [(e, fr', s')]
  | .cond c a b, fr, s => match fr.ev c with
    | some (.bool true) => code P G call m a fr s
    | some (.bool false) => code P G call m b fr s
    | _ => none
  | .block id a, fr, s => bindR (code P G call m a fr s) fun e fr' s' => match e with
    | .exit j => match Nat.beq j id with
      | true => some [(.normal, fr', s')]
      | false => some [(.exit j, fr', s')]
    | e => some [(e, fr', s')]
  | .loop a, fr, s => iter (code P G call m a) m fr s
  | .exit id, fr, s => some [(.exit id, fr, s)]
  | .ret, fr, s => some [(.ret, fr, s)]
  | .rangeFunc g ps a b, fr, s => rangeF P call g ps a b fr s
  | _, _, _ => none

noncomputable def roundB (P : Program) (G : Glob) (call : CallF) (m k : Nat) (b : Code) (e : Ex) (fr : Fr) (s : St) : Outs :=
  match e, hget s.h k with
  | .normal, some (.loop st j n t ps a' b') => match Nat.beq st 0 with
    | true => match code P G call m b fr (s.upd k (.loop 1 j n t ps a' b')) with
      | some l => resO (fun e _ s => endR k e s) l
      | none => none
    | false => none
  | _, _ => none
/-- A ROUND. -/
noncomputable def roundA (P : Program) (G : Glob) (call : CallF) (m k : Nat) (args : List AV) (s : St) : Outs :=
  match hget s.h k with
  | some (.loop _ _ n t ps a b) => match okCode a, okCode b with
    | true, true => setPs n ps args t fun t => match s with
      | ⟨h, fc⟩ => natC fc fun fc => natC (fc + 1) fun fc' => match code P G call m a ⟨fc, 0, n, t, [], .no⟩ ⟨h, fc'⟩ with
        | some l => resO (roundB P G call m k b) l
        | none => none
    | _, _ => none
  | _ => none

noncomputable def resultA (P : Program) (G : Glob) (fr : Fr) (h : Heap) : ResultVar → Option AV
  | .tmp t => fr.ev (.tmp t)
  | .cell a t => match fr.ev (.tmp a) with
    | some v => loadA P G h t v
    | none => none
noncomputable def resultsA (P : Program) (G : Glob) (fr : Fr) (h : Heap) : List ResultVar → Option (List AV)
  | [] => some []
  | r :: rs => match resultA P G fr h r, resultsA P G fr h rs with
    | some v, some vs => some (v :: vs)
    | _, _ => none
noncomputable def resultOf (P : Program) (G : Glob) (fr : Fr) (h : Heap) (rs : Array ResultVar) : Option AV :=
  match resultsA P G fr h rs.toList with
  | some [v] => some v
  | some vs => some (.tup vs)
  | none => none

/-- how a frame leaves -/
inductive Lv where
  | back
  | pan (v : AV)

/-- a function's body over its arguments; what is deferred comes back with the frame -/
noncomputable def body (P : Program) (G : Glob) (call : CallF) (m : Nat) (fn : Func) (args : List AV) (s : St) (rc : Rc) : Res :=
  match fn.body with
  | none => none
  | some c => match s with
    | ⟨h, fc⟩ => natC fc fun fc => natC (Nat.max fn.ntmps args.length) fun n => T.setListC .e 0 args fun t => natC (fc + 1) fun fc' => code P G call m c ⟨fc, 0, n, t, [], rc⟩ ⟨h, fc'⟩

/-- A deferred call while the frame leaves so; how it leaves then. -/
noncomputable def deferred (P : Program) (G : Glob) (call : CallF) (m : Nat) (d : AV × List AV) (u : Lv) (s : St) : Option (List (Lv × St)) :=
  match d.1 with
  | .fn (.func g) first captured => match P.funcs.toList[g]? with
    | some fn => match body P G call m fn (first ++ d.2 ++ captured) s (match u with | .back => .idle | .pan v => .live v false) with
      | none => none
      | some l => ends fn l
    | none => none
  | .yl k => match hget s.h k with
    | some (.defs true) => some [(u, s.upd k (.defs false))]
    | _ => none
  | _ => none
where
  ends (fn : Func) : List (Ex × Fr × St) → Option (List (Lv × St))
    | [] => some []
    | (e, fr, s) :: rest => match ends fn rest with
      | none => none
      | some b => match e, fr.df, resultOf P G fr s.h fn.results with
        | .normal, [], some _ | .ret, [], some _ => match u, fr.rc with
          | .back, .idle => some ((.back, s) :: b)
          | .pan _, .live _ true => some ((.back, s) :: b)
          | .pan _, .live v false => some ((.pan v, s) :: b)
          | _, _ => none
        | _, _, _ => none

noncomputable def leave (P : Program) (G : Glob) (call : CallF) (m : Nat) (fn : Func) (fr : Fr) : List (AV × List AV) → Lv → St → Outs
  | [], .back, s => match resultOf P G fr s.h fn.results with
    | some v => some [.val v s]
    | none => none
  | [], .pan v, s => some [.pan v s]
  | d :: ds, u, s => match deferred P G call m d u s with
    | none => none
    | some l => go (leave P G call m fn fr ds) l
where
  go (f : Lv → St → Outs) : List (Lv × St) → Outs
    | [] => some []
    | (u, s) :: rest => match f u s with
      | none => none
      | some a => match rest with
        | [] => some a
        | _ => match go f rest with
          | none => none
          | some b => some (a ++ b)

noncomputable def ends (P : Program) (G : Glob) (call : CallF) (m : Nat) (fn : Func) : List (Ex × Fr × St) → Outs
  | [] => some []
  | (e, fr, s) :: rest => match (match e with
      | .normal | .ret => leave P G call m fn fr fr.df .back s
      | .pan v => leave P G call m fn fr fr.df (.pan v) s
      | .exit _ => none) with
    | none => none
    | some a => match rest with
      | [] => some a
      | _ => match ends P G call m fn rest with
        | none => none
        | some b => some (a ++ b)

/-- What is known without a walk; whose new blocks are forgotten at their end. -/
structure Ext where
  f : FuncId → List AV → Option AV
  gc : Nat → Bool
instance : CoeFun Ext fun _ => FuncId → List AV → Option AV := ⟨Ext.f⟩

/-! ### what a call left behind is forgotten -/
/-- the keys below n -/
noncomputable def cutT {α : Type} : Nat → T α → T α
  | _, .e => .e
  | n, .n l v r => .n (cutT (Nat.div n 2) l) (match n with | 0 => none | _ + 1 => v) (cutT (Nat.div (Nat.sub n 1) 2) r)
noncomputable def tEq {α : Type} (eq : α → α → Bool) : T α → T α → Bool
  | .e, .e => true
  | .n l v r, .n l' v' r' => match v, v' with
    | none, none => match tEq eq l l' with
      | true => tEq eq r r'
      | false => false
    | some x, some y => match eq x y with
      | true => match tEq eq l l' with
        | true => tEq eq r r'
        | false => false
      | false => false
    | _, _ => false
  | _, _ => false
noncomputable def meEq : List (AV × AV × Nat) → List (AV × AV × Nat) → Bool
  | [], [] => true
  | (k, v, b) :: l, (k', v', b') :: l' => match avEq k k', avEq v v', Nat.beq b b' with
    | true, true, true => meEq l l'
    | _, _, _ => false
  | _, _ => false
noncomputable def natsEq : List Nat → List Nat → Bool
  | [], [] => true
  | a :: l, b :: r => match Nat.beq a b with
    | true => natsEq l r
    | false => false
  | _, _ => false
noncomputable def abEq : AB → AB → Bool
  | .dead, .dead => true
  | .row cs n es tg, .row cs' n' es' tg' => match Nat.beq n n', Nat.beq es es', Nat.beq tg tg' with
    | true, true, true => tEq avEq cs cs'
    | _, _, _ => false
  | .map es c, .map es' c' => match Nat.beq c c' with
    | true => meEq es es'
    | false => false
  | .mit (some m) a l b, .mit (some m') a' l' b' => match Nat.beq m m', Nat.beq a a', Nat.beq b b' with
    | true, true, true => natsEq l l'
    | _, _, _ => false
  | _, _ => false
noncomputable def scalsA : List AV → Bool
  | [] => true
  | v :: r => match v with
    | .bool _ => scalsA r
    | .int _ _ => scalsA r
    | .str _ => scalsA r
    | _ => false
/-- the memory behind a call, its own blocks forgotten, but for that of its result -/
noncomputable def tidyH (fc : Nat) (v : AV) (h : Heap) : Option Heap :=
  match v with
  | .slice id _ _ _ _ => match hget h id with
    | some (.row cs n es tg) => match rowGet cs 0 n with
      | some l => match scalsA l with
        | true => some (hset (cutT fc h) id (.row cs n es tg))
        | false => none
      | none => none
    | _ => none
  | .nils => some (cutT fc h)
  | _ => none
noncomputable def tidyAll (fc : Nat) : List Out → Option (List (AV × Heap) × Nat)
  | [] => some ([], 0)
  | .val v ⟨h, n⟩ :: r => match tidyH fc v h, tidyAll fc r with
    | some h', some (l, m) => some ((v, h') :: l, Nat.max n m)
    | _, _ => none
  | .pan _ _ :: _ => none
/-- are they all the first? -/
noncomputable def allSame (v : AV) (h : Heap) : List (AV × Heap) → Bool
  | [] => true
  | (v', h') :: r => match avEq v v', tEq (tEq abEq) h h' with
    | true, true => allSame v h r
    | _, _ => false
noncomputable def tidyO (gc : Bool) (fc : Nat) (outs : List Out) : List Out :=
  match gc, tidyAll fc outs with
  | true, some ((v, h) :: r, n) => match allSame v h r with
    | true => [.val v ⟨h, n⟩]
    | false => outs
  | _, _ => outs
noncomputable def tidy (gc : Bool) (fc : Nat) : Outs → Outs
  | some l => some (tidyO gc fc l)
  | none => none

noncomputable def call (P : Program) (G : Glob) (X : Ext) (m : Nat) : Nat → CallF
  | 0 => ⟨fun _ _ _ => none, fun _ _ _ => none⟩
  | n + 1 => ⟨fun f args s => match P.funcs.toList[f]? with
    | none => none
    | some fn => match X f args with
      | some v => some [.val v s]
      | none => match body P G (call P G X m n) m fn args s .no with
        | none => none
        | some l => tidy (X.gc f) s.fc (ends P G (call P G X m n) m fn l), fun k args s => roundA P G (call P G X m n) m k args s⟩

end Go.Ai

namespace Go.Ai
open Go

/-! ### tries -/
theorem natC_eq {β : Type} (n : Nat) (k : Nat → β) : natC n k = k n := by cases n <;> rfl
theorem intC_eq {β : Type} (n : Int) (k : Int → β) : intC n k = k n := by cases n <;> simp [intC, natC_eq]
theorem boolC_eq {β : Type} (b : Bool) (k : Bool → β) : boolC b k = k b := by cases b <;> rfl
theorem listC_eq {α β : Type} : ∀ (l : List α) (k : List α → β), listC l k = k l
  | [], _ => rfl
  | x :: xs, k => by rw [listC, listC_eq xs]
theorem abC_eq {β : Type} (b : AB) (k : AB → β) : abC b k = k b := by cases b <;> simp [abC, natC_eq]
theorem avC_eq {β : Type} (v : AV) (k : AV → β) : avC v k = k v := by
  cases v <;> simp [avC, natC_eq, intC_eq, boolC_eq, listC_eq]
  rename_i c; cases c <;> simp

theorem T.get_e {α : Type} (k : Nat) : (T.e : T α).get k = none := rfl
theorem T.get_n {α : Type} (l r : T α) (v : Option α) (k : Nat) :
    (T.n l v r).get k = if k = 0 then v else if k % 2 = 1 then l.get (k / 2) else r.get (k / 2 - 1) := by
  show Bool.casesOn (motive := fun _ => Option α) (Nat.beq k 0) (Bool.casesOn (motive := fun _ => Option α) (Nat.beq (Nat.mod k 2) 1) (r.get (Nat.sub (Nat.div k 2) 1)) (l.get (Nat.div k 2))) v = _
  cases h0 : Nat.beq k 0
  · have hk : k ≠ 0 := by intro h; subst h; simp at h0
    cases h1 : Nat.beq (Nat.mod k 2) 1
    · have : k % 2 ≠ 1 := fun h => by
        have h' : Nat.mod k 2 = 1 := h
        rw [h'] at h1; simp at h1
      simp only [if_neg hk, if_neg this]; rfl
    · have : k % 2 = 1 := Nat.eq_of_beq_eq_true h1
      simp only [if_neg hk, if_pos this]; rfl
  · have hk : k = 0 := Nat.eq_of_beq_eq_true h0
    simp [hk]

theorem T.setFC_eq {α β : Type} : ∀ (f : Nat) (t : T α) (k : Nat) (x : α) (c : T α → β), T.setFC f t k x c = c (T.setF f t k x)
  | 0, t, k, x, c => rfl
  | f + 1, .e, k, x, c => by
    show Bool.casesOn (motive := fun _ => β) (Nat.beq k 0) (Bool.casesOn (motive := fun _ => β) (Nat.beq (Nat.mod k 2) 1)
          (T.setFC f .e (Nat.sub (Nat.div k 2) 1) x fun t => c (.n .e none t))
          (T.setFC f .e (Nat.div k 2) x fun t => c (.n t none .e))) (c (.n .e (some x) .e)) = _
    simp only [T.setFC_eq f]
    simp only [T.setF]
    have e1 : Nat.mod k 2 = k % 2 := rfl
    have e2 : Nat.div k 2 = k / 2 := rfl
    have e3 : Nat.sub (Nat.div k 2) 1 = k / 2 - 1 := rfl
    rw [e1, e3, e2]
    cases Nat.beq k 0 <;> simp only
    cases Nat.beq (k % 2) 1 <;> simp only
  | f + 1, .n l v r, k, x, c => by
    show Bool.casesOn (motive := fun _ => β) (Nat.beq k 0) (Bool.casesOn (motive := fun _ => β) (Nat.beq (Nat.mod k 2) 1)
          (T.setFC f r (Nat.sub (Nat.div k 2) 1) x fun t => c (.n l v t))
          (T.setFC f l (Nat.div k 2) x fun t => c (.n t v r))) (c (.n l (some x) r)) = _
    simp only [T.setFC_eq f]
    simp only [T.setF]
    have e1 : Nat.mod k 2 = k % 2 := rfl
    have e2 : Nat.div k 2 = k / 2 := rfl
    have e3 : Nat.sub (Nat.div k 2) 1 = k / 2 - 1 := rfl
    rw [e1, e3, e2]
    cases Nat.beq k 0 <;> simp only
    cases Nat.beq (k % 2) 1 <;> simp only

theorem T.get_setF {α : Type} : ∀ (f : Nat) (t : T α) (k j : Nat) (x : α), k < f → (T.setF f t k x).get j = if j = k then some x else t.get j
  | 0, t, k, j, x, h => by omega
  | f + 1, .e, k, j, x, h => by
    simp only [T.setF]
    split
    · rename_i h0
      have hk : k = 0 := Nat.eq_of_beq_eq_true h0
      subst hk
      simp only [T.get_n, T.get_e]
      by_cases hj : j = 0 <;> simp [hj]
    · rename_i h0
      have hk : k ≠ 0 := by intro e; subst e; simp at h0
      split
      · rename_i h1
        have h1' : k % 2 = 1 := Nat.eq_of_beq_eq_true h1
        simp only [T.get_n, T.get_e]
        rw [T.get_setF f .e (k / 2) (j / 2) x (by omega)]
        simp only [T.get_e]
        by_cases hj : j = 0
        · subst hj; rw [if_pos rfl, if_neg (by omega)]
        · rw [if_neg hj]
          by_cases hj1 : j % 2 = 1
          · rw [if_pos hj1]
            by_cases e : j = k
            · subst e; simp
            · rw [if_neg e, if_neg (by omega)]
          · rw [if_neg hj1, if_neg (by intro e; subst e; omega)]
      · rename_i h1
        have h1' : k % 2 ≠ 1 := by intro e; rw [e] at h1; simp at h1
        simp only [T.get_n, T.get_e]
        rw [T.get_setF f .e (k / 2 - 1) (j / 2 - 1) x (by omega)]
        simp only [T.get_e]
        by_cases hj : j = 0
        · subst hj; rw [if_pos rfl, if_neg (by omega)]
        · rw [if_neg hj]
          by_cases hj1 : j % 2 = 1
          · rw [if_pos hj1, if_neg (by intro e; subst e; omega)]
          · rw [if_neg hj1]
            by_cases e : j = k
            · subst e; simp
            · rw [if_neg e, if_neg (by omega)]
  | f + 1, .n l v r, k, j, x, h => by
    simp only [T.setF]
    split
    · rename_i h0
      have hk : k = 0 := Nat.eq_of_beq_eq_true h0
      subst hk
      simp only [T.get_n]
      by_cases hj : j = 0 <;> simp [hj]
    · rename_i h0
      have hk : k ≠ 0 := by intro e; subst e; simp at h0
      split
      · rename_i h1
        have h1' : k % 2 = 1 := Nat.eq_of_beq_eq_true h1
        simp only [T.get_n]
        rw [T.get_setF f l (k / 2) (j / 2) x (by omega)]
        by_cases hj : j = 0
        · subst hj; rw [if_pos rfl, if_neg (by omega), if_pos rfl]
        · rw [if_neg hj, if_neg hj]
          by_cases hj1 : j % 2 = 1
          · rw [if_pos hj1, if_pos hj1]
            by_cases e : j = k
            · subst e; simp
            · rw [if_neg e, if_neg (by omega)]
          · rw [if_neg hj1, if_neg hj1, if_neg (by intro e; subst e; omega)]
      · rename_i h1
        have h1' : k % 2 ≠ 1 := by intro e; rw [e] at h1; simp at h1
        simp only [T.get_n]
        rw [T.get_setF f r (k / 2 - 1) (j / 2 - 1) x (by omega)]
        by_cases hj : j = 0
        · subst hj; rw [if_pos rfl, if_neg (by omega), if_pos rfl]
        · rw [if_neg hj, if_neg hj]
          by_cases hj1 : j % 2 = 1
          · rw [if_pos hj1, if_pos hj1, if_neg (by intro e; subst e; omega)]
          · rw [if_neg hj1, if_neg hj1]
            by_cases e : j = k
            · subst e; simp
            · rw [if_neg e, if_neg (by omega)]

theorem T.get_set {α : Type} (t : T α) (k j : Nat) (x : α) : (t.set k x).get j = if j = k then some x else t.get j :=
  T.get_setF (k + 1) t k j x (by omega)
theorem T.setC_eq {α β : Type} (t : T α) (k : Nat) (x : α) (c : T α → β) : T.setC t k x c = c (t.set k x) := T.setFC_eq _ _ _ _ _
theorem T.setListC_eq {α β : Type} : ∀ (l : List α) (t : T α) (k : Nat) (c : T α → β), T.setListC t k l c = c (t.setList k l)
  | [], _, _, _ => rfl
  | x :: xs, t, k, c => by rw [T.setListC, T.setC_eq, natC_eq, T.setListC_eq xs]; rfl
theorem T.get_setList {α : Type} : ∀ (l : List α) (t : T α) (k j : Nat), (t.setList k l).get j = if k ≤ j ∧ j < k + l.length then l[j - k]? else t.get j
  | [], t, k, j => by rw [T.setList, if_neg (by simp only [List.length_nil]; omega)]
  | x :: xs, t, k, j => by
    rw [T.setList, T.get_setList xs, T.get_set]
    by_cases h : k + 1 ≤ j ∧ j < k + 1 + xs.length
    · rw [if_pos h, if_pos (by simp; omega), show j - k = (j - (k + 1)) + 1 from by omega]; simp only [List.getElem?_cons_succ]
    · rw [if_neg h]
      by_cases e : j = k
      · subst e; rw [if_pos rfl, if_pos (by simp)]; simp only [Nat.sub_self, List.getElem?_cons_zero]
      · rw [if_neg e, if_neg (by simp; omega)]

theorem hsetC_eq {β : Type} (h : Heap) (k : Nat) (b : AB) (c : Heap → β) : hsetC h k b c = c (hset h k b) := by
  unfold hsetC hset
  split <;> simp only [T.setC_eq]
theorem hget_hset (h : Heap) (k j : Nat) (b : AB) : hget (hset h k b) j = if j = k then some b else hget h j := by
  have key : (Nat.div j 1267650600228229401496703205376 = Nat.div k 1267650600228229401496703205376 ∧ Nat.mod j 1267650600228229401496703205376 = Nat.mod k 1267650600228229401496703205376) ↔ j = k := by
    constructor
    · rintro ⟨h1, h2⟩
      have e1 := Nat.div_add_mod j 1267650600228229401496703205376
      have e2 := Nat.div_add_mod k 1267650600228229401496703205376
      have h1' : j / 1267650600228229401496703205376 = k / 1267650600228229401496703205376 := h1
      have h2' : j % 1267650600228229401496703205376 = k % 1267650600228229401496703205376 := h2
      omega
    · rintro rfl; exact ⟨rfl, rfl⟩
  unfold hset hget
  cases e : h.get (Nat.div k 1267650600228229401496703205376) with
  | some t =>
    simp only [T.get_set]
    by_cases h1 : Nat.div j 1267650600228229401496703205376 = Nat.div k 1267650600228229401496703205376
    · rw [if_pos h1]
      simp only [T.get_set]
      by_cases h2 : Nat.mod j 1267650600228229401496703205376 = Nat.mod k 1267650600228229401496703205376
      · rw [if_pos h2, if_pos (key.1 ⟨h1, h2⟩)]
      · rw [if_neg h2, if_neg (fun e => h2 (by rw [e])), h1, e]
    · rw [if_neg h1, if_neg (fun e => h1 (by rw [e]))]
  | none =>
    simp only [T.get_set]
    by_cases h1 : Nat.div j 1267650600228229401496703205376 = Nat.div k 1267650600228229401496703205376
    · rw [if_pos h1]
      simp only [T.get_set, T.get_e]
      by_cases h2 : Nat.mod j 1267650600228229401496703205376 = Nat.mod k 1267650600228229401496703205376
      · rw [if_pos h2, if_pos (key.1 ⟨h1, h2⟩)]
      · rw [if_neg h2, if_neg (fun e => h2 (by rw [e])), h1, e]
    · rw [if_neg h1, if_neg (fun e => h1 (by rw [e]))]
theorem hget_e (j : Nat) : hget (T.e : Heap) j = none := rfl

theorem St.upd_eq (s : St) (k : Nat) (b : AB) : s.upd k b = ⟨hset s.h k b, s.fc⟩ := by
  cases s; simp [St.upd, abC_eq, natC_eq, hsetC_eq]
theorem St.withH_eq (s : St) (h : Heap) : s.withH h = ⟨h, s.fc⟩ := by cases s; rfl
theorem Fr.put_some (fr : Fr) (d : Nat) (v : AV) (fr' : Fr) (h : fr.put (some d) v = some fr') : d < fr.n ∧ fr' = { fr with t := fr.t.set d v } := by
  obtain ⟨fno, lc, n, t, df, rc⟩ := fr
  simp only [Fr.put, avC_eq, T.setC_eq] at h
  cases hb : Nat.blt d n with
  | true =>
    rw [hb] at h
    simp only [Option.some.injEq] at h
    refine ⟨?_, h.symm⟩
    simpa using hb
  | false => rw [hb] at h; cases h

/-! ### what stands for what -/
structure Ent where
  b : Nat
  o : Nat
  k : Nat
abbrev Map := Nat → Option Ent

mutual
def RV (ρ : Map) : AV → Value → Prop
  | .bool b, v => v = .bool b
  | .int k n, v => v = .int k n
  | .str s, v => v = .string ⟨s.toArray⟩
  | .nilp, v => v = .pointer none
  | .ptr i o, v => ∃ e, ρ i = some e ∧ v = .pointer (some ⟨e.b, e.o + o, none⟩)
  | .gptr g o, v => v = .pointer (some ⟨g, o, none⟩)
  | .nils, v => v = .slice none 0 0
  | .slice i o eo len cap, v => ∃ e, ρ i = some e ∧
      match cap with
      | some c => ∃ o', len ≤ c ∧ (0 < c → o' = o) ∧ v = .slice (some ⟨e.b, e.o + o', none⟩) len c
      | none => ∃ o', eo + len ≤ e.k ∧ (eo < e.k → o' = o) ∧ v = .slice (some ⟨e.b, e.o + o', none⟩) len (e.k - eo)
  | .nilm, v => v = .map none
  | .map i, v => ∃ e, ρ i = some e ∧ v = .map (some e.b)
  | .fn f a c, v => ∃ a' c', RVs ρ a a' ∧ RVs ρ c c' ∧ v = .func f a'.toArray c'.toArray
  | .nilf, v => v = .nilFunc
  | .iface t x, v => ∃ y, RV ρ x y ∧ v = .iface t y
  | .nili, v => v = .nilIface
  | .agg cs, v => ∃ vs, RVs ρ cs vs ∧ v = .agg vs.toArray
  | .tup cs, v => ∃ vs, RVs ρ cs vs ∧ v = .tuple vs.toArray
  | .yl k, v => ∃ e, ρ k = some e ∧ v = .func (.yield e.b) #[] #[]
  | .hole, v => ∃ a, v = .slice (some a) 0 0
def RVs (ρ : Map) : List AV → List Value → Prop
  | [], l => l = []
  | a :: as', l => ∃ v vs, RV ρ a v ∧ RVs ρ as' vs ∧ l = v :: vs
end

def Mono (ρ ρ' : Map) : Prop := ∀ i e, ρ i = some e → ρ' i = some e
theorem Mono.refl (ρ : Map) : Mono ρ ρ := fun _ _ h => h
theorem Mono.trans {a b c : Map} (h : Mono a b) (k : Mono b c) : Mono a c := fun i e he => k i e (h i e he)

mutual
theorem RV.mono {ρ ρ' : Map} (h : Mono ρ ρ') : ∀ (a : AV) (v : Value), RV ρ a v → RV ρ' a v
  | .bool _, _, r => r
  | .int _ _, _, r => r
  | .str _, _, r => r
  | .nilp, _, r => r
  | .ptr _ _, _, ⟨e, he, r⟩ => ⟨e, h _ _ he, r⟩
  | .gptr _ _, _, r => r
  | .nils, _, r => r
  | .slice _ _ _ _ _, _, ⟨e, he, r⟩ => ⟨e, h _ _ he, r⟩
  | .nilm, _, r => r
  | .map _, _, ⟨e, he, r⟩ => ⟨e, h _ _ he, r⟩
  | .fn _ a c, _, ⟨a', c', ra, rc, r⟩ => ⟨a', c', RVs.mono h a a' ra, RVs.mono h c c' rc, r⟩
  | .nilf, _, r => r
  | .iface _ x, _, ⟨y, rx, r⟩ => ⟨y, RV.mono h x y rx, r⟩
  | .nili, _, r => r
  | .agg cs, _, ⟨vs, rs, r⟩ => ⟨vs, RVs.mono h cs vs rs, r⟩
  | .tup cs, _, ⟨vs, rs, r⟩ => ⟨vs, RVs.mono h cs vs rs, r⟩
  | .yl _, _, ⟨e, he, r⟩ => ⟨e, h _ _ he, r⟩
  | .hole, _, r => r
theorem RVs.mono {ρ ρ' : Map} (h : Mono ρ ρ') : ∀ (a : List AV) (v : List Value), RVs ρ a v → RVs ρ' a v
  | [], _, r => r
  | a :: as', _, ⟨v, vs, ra, rs, r⟩ => ⟨v, vs, RV.mono h a v ra, RVs.mono h as' vs rs, r⟩
end

theorem RVs.length {ρ : Map} : ∀ {a : List AV} {v : List Value}, RVs ρ a v → a.length = v.length
  | [], _, r => by simp only [RVs] at r; subst r; rfl
  | _ :: as', _, ⟨v, vs, _, rs, r⟩ => by subst r; simp [RVs.length rs]
theorem RVs.get {ρ : Map} : ∀ {a : List AV} {v : List Value}, RVs ρ a v → ∀ (i : Nat) (x : AV), a[i]? = some x → ∃ y, v[i]? = some y ∧ RV ρ x y
  | [], _, _, i, x, h => by simp at h
  | a :: as', _, ⟨v, vs, ra, rs, r⟩, 0, x, h => by subst r; simp at h; subst h; exact ⟨v, by simp, ra⟩
  | a :: as', _, ⟨v, vs, ra, rs, r⟩, i + 1, x, h => by subst r; simp at h; obtain ⟨y, hy, ry⟩ := RVs.get rs i x h; exact ⟨y, by simpa using hy, ry⟩
theorem RVs.append {ρ : Map} : ∀ {a b : List AV} {v w : List Value}, RVs ρ a v → RVs ρ b w → RVs ρ (a ++ b) (v ++ w)
  | [], _, _, _, r, s => by simp only [RVs] at r; subst r; exact s
  | _ :: _, _, _, _, ⟨v, vs, ra, rs, r⟩, s => by subst r; exact ⟨v, _, ra, RVs.append rs s, rfl⟩
theorem RVs.drop {ρ : Map} : ∀ (n : Nat) {a : List AV} {v : List Value}, RVs ρ a v → RVs ρ (a.drop n) (v.drop n)
  | 0, _, _, r => r
  | n + 1, [], _, r => by simp only [RVs] at r; subst r; simp [RVs]
  | n + 1, _ :: _, _, ⟨_, _, _, rs, r⟩ => by subst r; exact RVs.drop n rs
theorem RVs.take {ρ : Map} : ∀ (n : Nat) {a : List AV} {v : List Value}, RVs ρ a v → RVs ρ (a.take n) (v.take n)
  | 0, _, _, _ => by simp [RVs]
  | n + 1, [], _, r => by simp only [RVs] at r; subst r; simp [RVs]
  | n + 1, _ :: _, _, ⟨_, _, ra, rs, r⟩ => by subst r; exact ⟨_, _, ra, RVs.take n rs, rfl⟩

end Go.Ai

namespace Go.Ai
open Go
variable {P : Program}

/-! ### tables -/
theorem run_isAggT {t : TypeId} {b : Bool} (h : isAggT P t = some b) (w : World) : (isAgg t).run P w = .ok b w := by
  unfold isAggT at h
  cases e : P.underlying t with
  | none => rw [e] at h; cases h
  | some d =>
    rw [e] at h
    have hu : (underlying t).run P w = .ok d w := by simp [underlying, e]
    unfold isAgg
    rw [Sem.run_bind, hu]
    cases d <;> simp_all
theorem run_sizeT {t : TypeId} {n : Nat} (h : sizeT P t = some n) (w : World) : (sizeOf t).run P w = .ok n w := by
  unfold sizeT at h
  cases e : P.info? t with
  | none => rw [e] at h; cases h
  | some i => rw [e] at h; simp at h; subst h; simp [sizeOf, typeInfo, e]
theorem info_sizeT {t : TypeId} {n : Nat} (h : sizeT P t = some n) : ∃ i, P.info? t = some i ∧ i.size = n := by
  unfold sizeT at h
  cases e : P.info? t with
  | none => rw [e] at h; cases h
  | some i => rw [e] at h; simp at h; exact ⟨i, rfl, h⟩
theorem run_typeInfo' {t : TypeId} {i : TypeInfo} (h : P.info? t = some i) (w : World) : (typeInfo t).run P w = .ok i w := by simp [typeInfo, h]
theorem run_und {t : TypeId} {d : TypeDesc} (h : P.underlying t = some d) (w : World) : (underlying t).run P w = .ok d w := by simp [underlying, h]
theorem run_runP {α : Type} {s : Sem α} {a : α} (h : runP P s = some a) (w : World) : s.run P w = .ok a w := by
  induction s with
  | pure x => simp [runP] at h; subst h; rfl
  | program k ih => exact ih P h
  | _ => simp [runP] at h

/-! ### constants -/
theorem ofS_rv (ρ : Map) {v : Value} {a : AV} (h : ofS v = some a) : RV ρ a v := by
  unfold ofS at h
  split at h <;> cases h <;> simp [RV]
theorem ofSs_rv (ρ : Map) : ∀ {l : List Value} {a : List AV}, ofSs l = some a → RVs ρ a l
  | [], a, h => by simp [ofSs] at h; subst h; simp [RVs]
  | v :: vs, a, h => by
    simp only [ofSs] at h
    split at h
    · rename_i x y hx hy
      cases h
      exact ⟨v, vs, ofS_rv ρ hx, ofSs_rv ρ hy, rfl⟩
    · cases h
theorem ofA_rv (ρ : Map) {v : Value} {a : AV} (h : ofA v = some a) : RV ρ a v := by
  unfold ofA at h
  split at h
  · rename_i cs
    split at h
    · rename_i l hl
      cases h
      exact ⟨cs.toList, ofSs_rv ρ hl, by simp⟩
    · cases h
  · exact ofS_rv ρ h
theorem ofAs_rv (ρ : Map) : ∀ {l : List Value} {a : List AV}, ofAs l = some a → RVs ρ a l
  | [], a, h => by simp [ofAs] at h; subst h; simp [RVs]
  | v :: vs, a, h => by
    simp only [ofAs] at h
    split at h
    · rename_i x y hx hy
      cases h
      exact ⟨v, vs, ofA_rv ρ hx, ofAs_rv ρ hy, rfl⟩
    · cases h
theorem ofV_rv (ρ : Map) {v : Value} {a : AV} (h : ofV v = some a) : RV ρ a v := by
  unfold ofV at h
  split at h
  · rename_i cs
    split at h
    · rename_i l hl
      cases h
      exact ⟨cs.toList, ofAs_rv ρ hl, by simp⟩
    · cases h
  · exact ofA_rv ρ h
theorem toS_rv {ρ : Map} {v u : Value} {a : AV} (h : toS a = some v) (r : RV ρ a u) : u = v := by
  unfold toS at h
  split at h <;> cases h <;> simpa [RV] using r

/-! ### frames -/
structure RF (ρ : Map) (fr : Fr) (a : Act) : Prop where
  size : a.tmps.size = fr.n
  tmp : ∀ t, RV ρ ((fr.t.get t).getD .undef) (a.tmps.getD t undef)

theorem RF.mono {ρ ρ' : Map} (h : Mono ρ ρ') {fr : Fr} {a : Act} (r : RF ρ fr a) : RF ρ' fr a := ⟨r.size, fun t => RV.mono h _ _ (r.tmp t)⟩

theorem rv_undef (ρ : Map) : RV ρ .undef undef := ⟨[], by simp [RVs], by simp [undef]⟩

theorem RF.ev {ρ : Map} {fr : Fr} {a : Act} (r : RF ρ fr a) {x : Operand} {v : AV} (h : fr.ev x = some v) : RV ρ v (a.eval x) := by
  cases x with
  | tmp t =>
    have := r.tmp t
    simp only [Fr.ev] at h
    cases e : fr.t.get t with
    | none => rw [e] at h this; cases h; exact this
    | some u => rw [e] at h this; cases h; exact this
  | const c => exact ofV_rv ρ h
  | global g => simp only [Fr.ev, Option.some.injEq] at h; subst h; simp [RV, Act.eval]
  | func f => simp only [Fr.ev, Option.some.injEq] at h; subst h; exact ⟨[], [], by simp [RVs], by simp [RVs], rfl⟩

theorem RF.evs {ρ : Map} {fr : Fr} {a : Act} (r : RF ρ fr a) : ∀ {xs : List Operand} {vs : List AV}, Ai.evs fr xs = some vs → RVs ρ vs (xs.map a.eval)
  | [], vs, h => by simp [Ai.evs] at h; subst h; simp [RVs]
  | x :: xs, vs, h => by
    simp only [Ai.evs] at h
    split at h
    · rename_i v hv
      split at h
      · rename_i ws hw
        cases h
        exact ⟨_, _, r.ev hv, r.evs hw, rfl⟩
      · cases h
    · cases h

theorem RF.put {ρ : Map} {fr fr' : Fr} {a : Act} (r : RF ρ fr a) {dst : Option Tmp} {v : AV} {u : Value} (h : fr.put dst v = some fr') (rv : RV ρ v u) :
    RF ρ fr' (a.put dst u) ∧ fr'.fno = fr.fno ∧ fr'.lc = fr.lc ∧ fr'.df = fr.df ∧ fr'.rc = fr.rc ∧ fr'.n = fr.n := by
  cases dst with
  | none => simp only [Fr.put, Option.some.injEq] at h; subst h; exact ⟨r, rfl, rfl, rfl, rfl, rfl⟩
  | some d =>
    obtain ⟨hd, rfl⟩ := Fr.put_some _ _ _ _ h
    refine ⟨⟨by simp [Act.put, r.size], fun t => ?_⟩, rfl, rfl, rfl, rfl, rfl⟩
    have hd' : d < a.tmps.size := by rw [r.size]; exact hd
    simp only [Act.put, T.get_set]
    by_cases e : t = d
    · subst e
      simp [hd', rv]
    · rw [if_neg e]
      have := r.tmp t
      simpa [Array.getElem?_setIfInBounds_ne (Ne.symm e)] using this

/-! ### parts -/
theorem rvs_extract {ρ : Map} {cs : List AV} {vs : List Value} (r : RVs ρ cs vs) (off n : Nat) : RVs ρ ((cs.drop off).take n) (vs.toArray.extract off (off + n)).toList := by
  simpa using RVs.take n (RVs.drop off r)

theorem part_rv {ρ : Map} {t : TypeId} {cs : List AV} {vs : List Value} {off : Nat} {v : AV} (h : partA P t cs off = some v) (r : RVs ρ cs vs) :
    ∃ u, (∀ w, (part t vs.toArray off).run P w = .ok u w) ∧ RV ρ v u := by
  unfold partA at h
  split at h
  · rename_i hb
    split at h
    · rename_i n hn
      cases h
      refine ⟨.agg (vs.toArray.extract off (off + n)), fun w => ?_, ⟨_, rvs_extract r off n, by simp⟩⟩
      simp [part, run_isAggT hb, run_sizeT hn]
    · cases h
  · rename_i hb
    obtain ⟨u, hu, ru⟩ := RVs.get r off v h
    refine ⟨u, fun w => ?_, ru⟩
    simp only [part, Sem.run_bind, run_isAggT hb, Result.andThen_ok]
    simp [hu]
  · cases h

end Go.Ai

namespace Go.Ai
open Go
variable {P : Program} {ρ : Map}

/-! ### building -/
theorem overA_length {α : Type} : ∀ (cs vs : List α), (overA cs vs).length = cs.length
  | [], vs => by cases vs <;> rfl
  | c :: cs, [] => rfl
  | c :: cs, v :: vs => by simp [overA, overA_length cs vs]
theorem fillA_length {α : Type} : ∀ (cs : List α) (n : Nat) (vs : List α), (fillA cs n vs).length = cs.length
  | cs, 0, vs => by cases cs <;> simp [fillA, overA_length]
  | [], n + 1, vs => rfl
  | c :: cs, n + 1, vs => by simp [fillA, fillA_length cs n vs]
theorem overA_nil {α : Type} (cs : List α) : overA cs [] = cs := by cases cs <;> rfl
theorem overA_rv : ∀ {cs : List AV} {ds : List Value} {vs : List AV} {us : List Value}, RVs ρ cs ds → RVs ρ vs us → RVs ρ (overA cs vs) (overA ds us)
  | [], ds, vs, us, r, s => by simp only [RVs] at r; subst r; cases vs <;> cases us <;> simp [overA, RVs]
  | c :: cs, _, [], us, r, s => by simp only [RVs] at s; subst s; rw [overA_nil, overA_nil]; exact r
  | c :: cs, _, v :: vs, _, ⟨d, ds, _, rs, e⟩, ⟨u, us, ru, ss, e2⟩ => by subst e; subst e2; exact ⟨u, _, ru, overA_rv rs ss, rfl⟩
theorem fillA_rv : ∀ {n : Nat} {cs : List AV} {ds : List Value} {vs : List AV} {us : List Value}, RVs ρ cs ds → RVs ρ vs us → RVs ρ (fillA cs n vs) (fillA ds n us)
  | 0, cs, ds, vs, us, r, s => by
    have e1 : fillA cs 0 vs = overA cs vs := by cases cs <;> rfl
    have e2 : fillA ds 0 us = overA ds us := by cases ds <;> rfl
    rw [e1, e2]; exact overA_rv r s
  | n + 1, [], _, vs, us, r, s => by simp only [RVs] at r; subst r; simp [fillA, RVs]
  | n + 1, c :: cs, _, vs, us, ⟨d, ds, rc, rs, e⟩, s => by subst e; exact ⟨d, _, rc, fillA_rv rs s, rfl⟩

theorem overA_cons {α : Type} (cs : List α) (v : α) (vs : List α) : overA cs (v :: vs) = fillA (cs.set 0 v) 1 vs := by
  cases cs with
  | nil => rfl
  | cons c cs =>
    simp only [overA, List.set_cons_zero, fillA]
    try (cases cs <;> simp [fillA])
theorem fillA_cons {α : Type} : ∀ (n : Nat) (cs : List α) (v : α) (vs : List α), fillA cs n (v :: vs) = fillA (cs.set n v) (n + 1) vs
  | 0, cs, v, vs => by
    have : fillA cs 0 (v :: vs) = overA cs (v :: vs) := by cases cs <;> rfl
    rw [this, overA_cons]
  | n + 1, [], v, vs => rfl
  | n + 1, c :: cs, v, vs => by simp [fillA, fillA_cons n cs v vs]
theorem fillA_nil {α : Type} : ∀ (n : Nat) (cs : List α), fillA cs n [] = cs
  | 0, cs => by cases cs <;> rfl
  | n + 1, [] => rfl
  | n + 1, c :: cs => by simp [fillA, fillA_nil n cs]
theorem foldl_fill (off : Nat) : ∀ (l : List Value) (i : Nat) (cells : Array Value),
    ((l.zipIdx i).foldl (fun (cs : Array Value) (x : Value × Nat) => cs.setIfInBounds (off + x.2) x.1) cells).toList = fillA cells.toList (off + i) l
  | [], i, cells => by simp [fillA_nil]
  | v :: vs, i, cells => by
    simp only [List.zipIdx_cons, List.foldl_cons]
    rw [foldl_fill off vs (i + 1), fillA_cons]
    simp [Nat.add_assoc]
theorem fold_fill (off : Nat) (vc cells : Array Value) :
    vc.zipIdx.foldl (fun cs (c, j) => cs.setIfInBounds (off + j) c) cells = (fillA cells.toList off vc.toList).toArray := by
  apply Array.toList_inj.1
  rw [← Array.foldl_toList]
  simp only [Array.toList_zipIdx]
  exact (foldl_fill off vc.toList 0 cells)

theorem one_rv {v : AV} {u : Value} (r : RV ρ v u) (h : u.cells = #[u]) : RVs ρ [v] u.cells.toList := by
  rw [h]; exact ⟨u, [], r, (by simp only [RVs]), rfl⟩
theorem cells_rv {v : AV} {u : Value} (r : RV ρ v u) : RVs ρ v.cells u.cells.toList := by
  cases v with
  | agg cs => obtain ⟨vs, rs, e⟩ := r; subst e; simpa [AV.cells, Value.cells] using rs
  | bool b => exact one_rv r (by simp only [RV] at r; subst r; rfl)
  | int k n => exact one_rv r (by simp only [RV] at r; subst r; rfl)
  | str s => exact one_rv r (by simp only [RV] at r; subst r; rfl)
  | nilp => exact one_rv r (by simp only [RV] at r; subst r; rfl)
  | gptr g o => exact one_rv r (by simp only [RV] at r; subst r; rfl)
  | nils => exact one_rv r (by simp only [RV] at r; subst r; rfl)
  | nilm => exact one_rv r (by simp only [RV] at r; subst r; rfl)
  | nilf => exact one_rv r (by simp only [RV] at r; subst r; rfl)
  | nili => exact one_rv r (by simp only [RV] at r; subst r; rfl)
  | ptr i o => exact one_rv r (by obtain ⟨e, _, h⟩ := r; subst h; rfl)
  | slice i o eo l c => exact one_rv r (by
      obtain ⟨e, _, h⟩ := r
      cases c with
      | some c => obtain ⟨o', _, _, h⟩ := h; subst h; rfl
      | none => obtain ⟨o', _, _, h⟩ := h; subst h; rfl)
  | map i => exact one_rv r (by obtain ⟨e, _, h⟩ := r; subst h; rfl)
  | yl i => exact one_rv r (by obtain ⟨e, _, h⟩ := r; subst h; rfl)
  | fn f a c => exact one_rv r (by obtain ⟨a', c', _, _, h⟩ := r; subst h; rfl)
  | iface t x => exact one_rv r (by obtain ⟨y, _, h⟩ := r; subst h; rfl)
  | tup cs => exact one_rv r (by obtain ⟨vs, _, h⟩ := r; subst h; rfl)
  | hole => exact one_rv r (by obtain ⟨a, h⟩ := r; subst h; rfl)

/-- parts, as evaluated -/
def RPs (ρ : Map) : List (Nat × AV) → List (Nat × Value) → Prop
  | [], l => l = []
  | (i, v) :: r, l => ∃ u us, RV ρ v u ∧ RPs ρ r us ∧ l = (i, u) :: us
theorem evParts_rv {fr : Fr} {a : Act} (r : RF ρ fr a) : ∀ {l : List (Nat × Operand)} {ps : List (Nat × AV)}, evParts fr l = some ps → RPs ρ ps (l.map fun (i, x) => (i, a.eval x))
  | [], ps, h => by simp [evParts] at h; subst h; rfl
  | (i, x) :: xs, ps, h => by
    simp only [evParts] at h
    split at h
    · rename_i v vs hv hvs
      cases h
      exact ⟨_, _, r.ev hv, evParts_rv r hvs, rfl⟩
    · cases h

theorem fill_struct (fs : List Field) (places : Array (Nat × Nat)) (hp : ∀ (i : Nat) (f : Field) (n : Nat), fs[i]? = some f → sizeT P f.type = some n → places[i]? = some (f.offset, n)) :
    ∀ {ps : List (Nat × AV)} {us : List (Nat × Value)} {cells out : List AV} {cv : Array Value}, RPs ρ ps us → RVs ρ cells cv.toList → buildParts P fs cells ps = some out →
      ∃ ov : List Value, Instr.fill (places[·]?) cv us = some ov.toArray ∧ RVs ρ out ov
  | [], us, cells, out, cv, hr, hc, h => by
    simp only [RPs] at hr; subst hr
    simp only [buildParts, Option.some.injEq] at h; subst h
    exact ⟨cv.toList, by simp [Instr.fill], hc⟩
  | (i, v) :: ps, _, cells, out, cv, ⟨u, us, rv, rs, e⟩, hc, h => by
    subst e
    simp only [buildParts] at h
    split at h
    · rename_i f hf
      split at h
      · rename_i n hn
        split at h
        · rename_i hb
          simp only [listC_eq] at h
          have hl := RVs.length (cells_rv rv)
          have hlc := RVs.length hc
          simp only [Bool.and_eq_true, Nat.ble_eq] at hb
          have hb1 := Nat.eq_of_beq_eq_true hb.1
          have hsz : u.cells.size = n := by rw [← hb1, hl]; simp
          have hcs : cells.length = cv.size := by simpa using hlc
          have := fill_struct fs places hp (cv := (fillA cv.toList f.offset u.cells.toList).toArray) rs (by simpa using fillA_rv hc (cells_rv rv)) h
          obtain ⟨ov, ho, ro⟩ := this
          refine ⟨ov, ?_, ro⟩
          simp only [Instr.fill, hp i f n hf hn]
          rw [if_neg, fold_fill]
          · exact ho
          · simp only [Bool.or_eq_true, decide_eq_true_eq, ne_eq]
            omega
        · cases h
      · cases h
    · cases h

theorem fill_arr (n : Nat) :
    ∀ {ps : List (Nat × AV)} {us : List (Nat × Value)} {cells out : List AV} {cv : Array Value}, RPs ρ ps us → RVs ρ cells cv.toList → buildArr n cells ps = some out →
      ∃ ov : List Value, Instr.fill (fun i => some (i * n, n)) cv us = some ov.toArray ∧ RVs ρ out ov
  | [], us, cells, out, cv, hr, hc, h => by
    simp only [RPs] at hr; subst hr
    simp only [buildArr, Option.some.injEq] at h; subst h
    exact ⟨cv.toList, by simp [Instr.fill], hc⟩
  | (i, v) :: ps, _, cells, out, cv, ⟨u, us, rv, rs, e⟩, hc, h => by
    subst e
    simp only [buildArr] at h
    split at h
    · rename_i hb
      simp only [listC_eq] at h
      have hl := RVs.length (cells_rv rv)
      have hlc := RVs.length hc
      simp only [Bool.and_eq_true, Nat.ble_eq] at hb
      have hb1 := Nat.eq_of_beq_eq_true hb.1
      have hsz : u.cells.size = n := by rw [← hb1, hl]; simp
      have hcs : cells.length = cv.size := by simpa using hlc
      obtain ⟨ov, ho, ro⟩ := fill_arr n (cv := (fillA cv.toList (i * n) u.cells.toList).toArray) rs (by simpa using fillA_rv hc (cells_rv rv)) h
      refine ⟨ov, ?_, ro⟩
      simp only [Instr.fill]
      rw [if_neg, fold_fill]
      · exact ho
      · simp only [Bool.or_eq_true, decide_eq_true_eq, ne_eq]
        omega
    · cases h

end Go.Ai

namespace Go.Ai
open Go
variable {P : Program} {ρ : Map}

/-- What it means that an operation yields a value in every world, and turns nothing. -/
def YV (P : Program) (ρ : Map) (s : Sem Next) (v : AV) : Prop := ∃ u, (∀ w, s.run P w = .ok (.value u) w) ∧ RV ρ v u

theorem YV.of {s : Sem Value} {v : AV} {u : Value} (h : ∀ w, s.run P w = .ok u w) (r : RV ρ v u) : YV P ρ (do pure (.value (← s))) v :=
  ⟨u, fun w => by simp [h], r⟩

section
variable {fr : Fr} {a : Act} {v : AV}

theorem s_move {x : Operand} (r : RF ρ fr a) (h : fr.ev x = some v) : YV P ρ (pure (.value (a.eval x))) v := ⟨a.eval x, fun _ => rfl, r.ev h⟩

theorem s_pick {c x y : Operand} (r : RF ρ fr a) (h : pPick fr x y (fr.ev c) = some v) : YV P ρ (do pure (.value (if ← asBool (a.eval c) then a.eval x else a.eval y))) v := by
  unfold pPick at h
  split at h
  · rename_i hc
    have := r.ev hc
    simp only [RV] at this
    exact ⟨a.eval x, fun w => by simp [this, asBool], r.ev h⟩
  · rename_i hc
    have := r.ev hc
    simp only [RV] at this
    exact ⟨a.eval y, fun w => by simp [this, asBool], r.ev h⟩
  · cases h

theorem zero_rv {t : TypeId} {z : AV} (h : zeroT P t = some z) : ∃ u, (∀ w, (zeroValue t).run P w = .ok u w) ∧ RV ρ z u ∧ RVs ρ z.cells u.cells.toList := by
  unfold zeroT at h
  cases e : P.info? t with
  | none => rw [e] at h; cases h
  | some i =>
    rw [e] at h; simp only at h
    cases e2 : i.zero with
    | none => rw [e2] at h; cases h
    | some v =>
      rw [e2] at h
      have r := ofA_rv ρ h
      exact ⟨v, fun w => by simp [zeroValue, typeInfo, e, e2], r, cells_rv r⟩

theorem cellsOf_sizeT {t : TypeId} {n : Nat} (h : sizeT P t = some n) : P.cellsOf t = n := by
  obtain ⟨i, hi, e⟩ := info_sizeT h
  simp [Program.cellsOf, hi, e]
theorem mapM_list (w : World) : ∀ (l : List Field), fieldsOk P l = true →
      (l.mapM fun f => do pure (f.offset, ← sizeOf f.type) : Sem (List (Nat × Nat))).run P w = .ok (l.map fun f => (f.offset, P.cellsOf f.type)) w
  | [], _ => by simp [List.mapM_nil]
  | f :: l, h => by
    simp only [fieldsOk] at h
    split at h
    · rename_i n0 hn0
      rw [List.mapM_cons]
      simp only [Sem.run_bind, run_sizeT hn0, Sem.run_pure, Result.andThen_ok]
      rw [mapM_list w l h]
      simp [cellsOf_sizeT hn0]
    · cases h
def placesOf (P : Program) (fs : Array Field) : Array (Nat × Nat) := (fs.toList.map fun f => (f.offset, P.cellsOf f.type)).toArray
theorem mapM_places (fs : Array Field) (w : World) (hs : fieldsOk P fs.toList = true) :
    (fs.mapM fun f => do pure (f.offset, ← sizeOf f.type) : Sem (Array (Nat × Nat))).run P w = .ok (placesOf P fs) w := by
  rw [Array.mapM_eq_mapM_toList]
  simp only [Sem.run_map, mapM_list w fs.toList hs, Result.andThen_ok]
  rfl
theorem placesOf_spec (fs : Array Field) (i : Nat) (f : Field) (n : Nat) (hf : fs.toList[i]? = some f) (hn : sizeT P f.type = some n) : (placesOf P fs)[i]? = some (f.offset, n) := by
  unfold placesOf
  simp only [List.getElem?_toArray, List.getElem?_map, hf, Option.map_some, cellsOf_sizeT hn]

theorem s_build {t : TypeId} {parts : Array (Nat × Operand)} (r : RF ρ fr a) (h : pBuild P fr t parts = some v) :
    YV P ρ (do pure (.value (← Instr.build t (parts.map fun (i, x) => (i, a.eval x))))) v := by
  unfold pBuild at h
  split at h
  · rename_i z ps hz hps
    obtain ⟨u, hu, _, rc⟩ := zero_rv (ρ := ρ) hz
    have rp := evParts_rv r hps
    have e : (parts.map fun (i, x) => (i, a.eval x)).toList = parts.toList.map fun (i, x) => (i, a.eval x) := by simp
    unfold pBuild2 at h
    split at h
    · rename_i fs hd
      split at h
      · rename_i hok
        unfold someAgg at h
        split at h
        · rename_i cs hcs
          cases h
          obtain ⟨ov, ho, ro⟩ := fill_struct (P := P) fs.toList (placesOf P fs) (fun i f n => placesOf_spec fs i f n) rp rc hcs
          refine YV.of (u := .agg ov.toArray) (fun w => ?_) ⟨ov, ro, rfl⟩
          simp only [Instr.build, Sem.run_bind, hu, Result.andThen_ok, run_und hd, mapM_places fs w hok]
          rw [e, ho]; rfl
        · cases h
      · cases h
    · rename_i n e' hd
      split at h
      · rename_i es hes
        unfold someAgg at h
        split at h
        · rename_i cs hcs
          cases h
          obtain ⟨ov, ho, ro⟩ := fill_arr es rp rc hcs
          refine YV.of (u := .agg ov.toArray) (fun w => ?_) ⟨ov, ro, rfl⟩
          simp only [Instr.build, Sem.run_bind, hu, Result.andThen_ok, run_und hd, run_sizeT hes]
          rw [e, ho]; rfl
        · cases h
      · cases h
    · cases h
  · cases h

theorem s_field {s : TypeId} {x : Operand} {f : Nat} (r : RF ρ fr a) (h : pF P (fr.ev x) f (P.underlying s) = some v) :
    YV P ρ (do pure (.value (← Instr.field s (a.eval x) f))) v := by
  unfold pF at h
  split at h
  · rename_i fs hd
    unfold pF1 at h
    split at h
    · rename_i fd hfd
      split at h
      · rename_i cs hcs
        obtain ⟨vs, rs, e⟩ := r.ev hcs
        have hf : fs[f]? = some fd := by simpa using hfd
        obtain ⟨u, hu, ru⟩ := part_rv h rs
        refine YV.of (u := u) (fun w => ?_) ru
        simp only [Instr.field, Sem.run_bind, run_und hd, Result.andThen_ok, hf, e, asAgg, Sem.run_pure, hu]
      · cases h
    · cases h
  · cases h

theorem natOf_spec {i : AV} {n : Nat} (h : natOf i = some n) {x : Value} (r : RV ρ i x) : ∃ k, x = .int k (n : Int) := by
  unfold natOf at h
  split at h
  · rename_i k m
    cases h
    simp only [RV] at r
    exact ⟨k, r⟩
  · cases h

theorem s_index {t : TypeId} {x ix : Operand} (r : RF ρ fr a) (h : pIx P t (fr.ev x) (fr.ev ix) = some v) :
    YV P ρ (do pure (.value (← Instr.index t (a.eval x) (a.eval ix)))) v := by
  unfold pIx at h
  split at h
  · rename_i v0 i0 hv hi
    unfold pIx1 at h
    split at h
    · rename_i i hn
      obtain ⟨k, hk⟩ := natOf_spec hn (r.ev hi)
      have rx := r.ev hv
      unfold pIx2 at h
      split at h
      · rename_i n e cs hd
        obtain ⟨vs, rs, e1⟩ := rx
        split at h
        · rename_i es hb hes
          have hlt : i < n := by simpa using hb
          obtain ⟨u, hu, ru⟩ := part_rv h rs
          refine YV.of (u := u) (fun w => ?_) ru
          have hmul : Nat.mul i es = i * es := rfl
          rw [hmul] at hu
          simp only [Instr.index, hk, asIntOf, Sem.run_bind, Sem.run_pure, Result.andThen_ok, run_und hd, e1, Int.toNat_natCast]
          rw [if_pos (by omega)]
          simp only [Sem.run_bind, run_sizeT hes, Result.andThen_ok, hu]
        · cases h
      · rename_i s hd
        simp only [RV] at rx
        split at h
        · rename_i b hb
          cases h
          refine YV.of (u := .int .u8 b.toNat) (fun w => ?_) rfl
          simp only [Instr.index, hk, asIntOf, Sem.run_bind, Sem.run_pure, Result.andThen_ok, run_und hd, rx]
          have : (ByteArray.mk s.toArray)[((i : Int)).toNat]? = some b := by
            obtain ⟨hl, he⟩ := List.getElem?_eq_some_iff.1 hb
            have hsz : (ByteArray.mk s.toArray).size = s.length := by simp [ByteArray.size]
            rw [Int.toNat_natCast, ByteArray.getElem?_lt' _ _ (by rw [hsz]; exact hl)]
            congr 1
          rw [if_pos (by omega), this]
          rfl
        · cases h
      · cases h
    · cases h
  · cases h

theorem s_extract {x : Operand} {i : Nat} (r : RF ρ fr a) (h : pEx i (fr.ev x) = some v) : YV P ρ (do pure (.value (← Instr.extract (a.eval x) i))) v := by
  unfold pEx at h
  split at h
  · rename_i vs hv
    obtain ⟨us, rs, e⟩ := r.ev hv
    obtain ⟨u, hu, ru⟩ := RVs.get rs i v h
    refine YV.of (u := u) (fun w => ?_) ru
    rw [e]
    simp [Instr.extract, hu]
  · cases h

theorem s_mkI {t : TypeId} {x : Operand} (r : RF ρ fr a) (h : pMkI t (fr.ev x) (P.underlying t) = some v) : YV P ρ (do pure (.value (← Instr.makeInterface t (a.eval x)))) v := by
  unfold pMkI at h
  split at h
  · cases h
  · rename_i d hne hd
    split at h
    · rename_i u0 hu0
      cases h
      refine YV.of (u := .iface t (a.eval x)) (fun w => ?_) ⟨_, r.ev hu0, rfl⟩
      simp only [Instr.makeInterface, Sem.run_bind, run_und hd, Result.andThen_ok]
      rfl
    · cases h
  · cases h

theorem arr_map {α β : Type} (f : α → β) (xs : Array α) : xs.map f = (xs.toList.map f).toArray := by apply Array.toList_inj.1; simp

theorem s_mkF {f : Fn} {xs ys : Array Operand} (r : RF ρ fr a) (h : pMkF f (evs fr xs.toList) (evs fr ys.toList) = some v) :
    YV P ρ (do pure (.value (← Instr.makeFunc f (xs.map a.eval) (ys.map a.eval)))) v := by
  unfold pMkF at h
  split at h
  · rename_i u1 u2 h1 h2
    cases h
    have r1 := r.evs h1
    have r2 := r.evs h2
    refine YV.of (u := .func f (xs.map a.eval) (ys.map a.eval)) (fun w => rfl) ⟨_, _, r1, r2, by rw [← arr_map, ← arr_map]⟩
  · cases h

theorem s_nil {x : Operand} (r : RF ρ fr a) {ty : TypeId} {pos : String} {after : Array Edge} {gd : Option (Nat × Bool)} {dst : Option Tmp}
    (h : pNil (fr.ev x) = some v) : YV P ρ (execOp a.eval { dst := dst, op := .nilCheck x, type := ty, pos := pos, after := after, guard := gd }) v := by
  unfold pNil at h
  split at h
  · rename_i i o hv
    cases h
    have rx := r.ev hv
    refine ⟨a.eval x, fun w => ?_, rx⟩
    obtain ⟨e, _, he⟩ := rx
    simp only [execOp, he]; rfl
  · rename_i i o hv
    cases h
    have rx := r.ev hv
    refine ⟨a.eval x, fun w => ?_, rx⟩
    simp only [RV] at rx
    simp only [execOp, rx]; rfl
  · rename_i f b c hv
    cases h
    have rx := r.ev hv
    refine ⟨a.eval x, fun w => ?_, rx⟩
    obtain ⟨_, _, _, _, he⟩ := rx
    simp only [execOp, he]; rfl
  · rename_i t u hv
    cases h
    have rx := r.ev hv
    refine ⟨a.eval x, fun w => ?_, rx⟩
    obtain ⟨_, _, he⟩ := rx
    simp only [execOp, he]; rfl
  · cases h

theorem run_fieldPlace {ad : Addr} {f : Field} {n : Nat} (hn : sizeT P f.type = some (n + 1)) (w : World) : (fieldPlace ad f).run P w = .ok (ad.add f.offset) w := by
  simp [fieldPlace, run_sizeT hn]
theorem add_none (b o n : Nat) : (Addr.mk b o none).add n = ⟨b, o + n, none⟩ := by
  unfold Addr.add; split
  · rename_i h; subst h; rfl
  · rfl

theorem s_fieldAddr {s : TypeId} {x : Operand} {f : Nat} (r : RF ρ fr a) (h : pFA P (fr.ev x) f (P.underlying s) = some v) :
    YV P ρ (do pure (.value (← Instr.fieldAt s (a.eval x) f))) v := by
  unfold pFA at h
  split at h
  · rename_i fs hd
    unfold pFA1 at h
    split at h
    · rename_i fd hfd
      have hf : fs[f]? = some fd := by simpa using hfd
      split at h
      · rename_i n hn
        unfold pFA2 at h
        split at h
        · rename_i i o hv
          cases h
          obtain ⟨e, he, hx⟩ := r.ev hv
          refine YV.of (u := .pointer (some ⟨e.b, e.o + o + fd.offset, none⟩)) (fun w => ?_) ⟨e, he, by show _ = Value.pointer (some ⟨e.b, e.o + (o + fd.offset), none⟩); rw [Nat.add_assoc]⟩
          simp only [Instr.fieldAt, Sem.run_bind, run_und hd, Result.andThen_ok, hf, hx, Instr.sureAddr, Sem.run_pure, run_fieldPlace hn, add_none]
        · rename_i g o hv
          cases h
          have hx := r.ev hv
          simp only [RV] at hx
          refine YV.of (u := .pointer (some ⟨g, o + fd.offset, none⟩)) (fun w => ?_) rfl
          simp only [Instr.fieldAt, Sem.run_bind, run_und hd, Result.andThen_ok, hf, hx, Instr.sureAddr, Sem.run_pure, run_fieldPlace hn, add_none]
        · cases h
      · cases h
    · cases h
  · cases h

theorem off_eq {e : TypeId} {i off o : Nat} (h : offA P e i off = some o) : ∃ es, sizeT P e = some es ∧ o = off + i * es := by
  unfold offA at h
  split at h
  · rename_i es hes
    cases h
    exact ⟨es, hes, rfl⟩
  · cases h

theorem s_indexAddr {t : TypeId} {x ix : Operand} (r : RF ρ fr a) (h : pIA P t (fr.ev x) (fr.ev ix) = some v) :
    YV P ρ (do pure (.value (← Instr.indexAt t (a.eval x) (a.eval ix)))) v := by
  unfold pIA at h
  split at h
  · rename_i v0 i0 hv hi
    unfold pIA1 at h
    split at h
    · rename_i i hn
      obtain ⟨k, hk⟩ := natOf_spec hn (r.ev hi)
      have rx := r.ev hv
      unfold pIA2 at h
      split at h
      · rename_i e id off eo len cap hd
        split at h
        · rename_i hb
          have hlt : i < len := by simpa using hb
          unfold pIA3 at h
          split at h
          · rename_i o ho
            cases h
            obtain ⟨es, hes, rfl⟩ := off_eq ho
            obtain ⟨en, hen, rx⟩ := rx
            have hx : ∃ c, a.eval x = .slice (some ⟨en.b, en.o + off, none⟩) len c := by
              cases cap with
              | some c =>
                obtain ⟨o', hle, ho', hx⟩ := rx
                have := ho' (by omega)
                subst this
                exact ⟨c, hx⟩
              | none =>
                obtain ⟨o', hle, ho', hx⟩ := rx
                have := ho' (by omega)
                subst this
                exact ⟨_, hx⟩
            obtain ⟨c, hx⟩ := hx
            refine YV.of (u := .pointer (some ⟨en.b, en.o + off + i * es, none⟩)) (fun w => ?_) ⟨en, hen, by rw [Nat.add_assoc]⟩
            simp only [Instr.indexAt, hk, asIntOf, Sem.run_bind, Sem.run_pure, Result.andThen_ok, run_und hd, hx, Int.toNat_natCast]
            rw [if_pos (by omega)]
            simp only [Sem.run_bind, Sem.run_pure, Result.andThen_ok, run_sizeT hes, add_none]
          · cases h
        · cases h
      · rename_i n e id off hd
        split at h
        · rename_i hb
          have hlt : i < n := by simpa using hb
          unfold pIA3 at h
          split at h
          · rename_i o ho
            cases h
            obtain ⟨es, hes, rfl⟩ := off_eq ho
            obtain ⟨en, hen, hx⟩ := rx
            refine YV.of (u := .pointer (some ⟨en.b, en.o + off + i * es, none⟩)) (fun w => ?_) ⟨en, hen, by rw [Nat.add_assoc]⟩
            simp only [Instr.indexAt, hk, asIntOf, Sem.run_bind, Sem.run_pure, Result.andThen_ok, run_und hd, hx, Int.toNat_natCast, Instr.sureAddr]
            rw [if_pos (by omega)]
            simp only [Sem.run_bind, Sem.run_pure, Result.andThen_ok, run_sizeT hes, add_none]
          · cases h
        · cases h
      · rename_i n e id off hd
        split at h
        · rename_i hb
          have hlt : i < n := by simpa using hb
          unfold pIA3g at h
          split at h
          · rename_i o ho
            cases h
            obtain ⟨es, hes, rfl⟩ := off_eq ho
            simp only [RV] at rx
            refine YV.of (u := .pointer (some ⟨id, off + i * es, none⟩)) (fun w => ?_) rfl
            simp only [Instr.indexAt, hk, asIntOf, Sem.run_bind, Sem.run_pure, Result.andThen_ok, run_und hd, rx, Int.toNat_natCast, Instr.sureAddr]
            rw [if_pos (by omega)]
            simp only [Sem.run_bind, Sem.run_pure, Result.andThen_ok, run_sizeT hes, add_none]
          · cases h
        · cases h
      · cases h
    · cases h
  · cases h

theorem s_typeAssert {x : Operand} {xt asserted : TypeId} {ok : Bool} (r : RF ρ fr a) (h : pTA P asserted ok (fr.ev x) (P.underlying asserted) = some v) :
    YV P ρ (do pure (.value (← Instr.typeAssert (a.eval x) xt asserted ok))) v := by
  unfold pTA at h
  split at h
  · cases h
  · rename_i d hne hd
    split at h
    · rename_i z hz
      obtain ⟨zu, hzu, rz, _⟩ := zero_rv (ρ := ρ) hz
      have hni : ∀ ms, d ≠ .interface ms := fun ms e => hne ms e
      unfold pTA1 at h
      split at h
      · rename_i t y hv
        obtain ⟨yu, ry, hx⟩ := r.ev hv
        split at h
        · rename_i hb
          cases h
          have ht : t = asserted := Nat.eq_of_beq_eq_true hb
          refine YV.of (u := .tuple #[yu, .bool true]) (fun w => ?_) ⟨[yu, .bool true], ⟨_, _, ry, ⟨_, _, rfl, rfl, rfl⟩, rfl⟩, rfl⟩
          simp only [Instr.typeAssert, Sem.run_bind, run_und hd, Result.andThen_ok, hx]
          cases d <;> simp_all
        · rename_i hb
          cases h
          have ht : t = asserted := Nat.eq_of_beq_eq_true hb
          refine YV.of (u := yu) (fun w => ?_) ry
          simp only [Instr.typeAssert, Sem.run_bind, run_und hd, Result.andThen_ok, hx]
          cases d <;> simp_all
        · rename_i hb
          cases h
          have ht : t ≠ asserted := by intro e; subst e; simp at hb
          refine YV.of (u := .tuple #[zu, .bool false]) (fun w => ?_) ⟨[zu, .bool false], ⟨_, _, rz, ⟨_, _, rfl, rfl, rfl⟩, rfl⟩, rfl⟩
          simp only [Instr.typeAssert, Sem.run_bind, run_und hd, Result.andThen_ok, hx]
          cases d <;> simp_all
        · cases h
      · rename_i hv
        have hx := r.ev hv
        simp only [RV] at hx
        split at h
        · cases h
          refine YV.of (u := .tuple #[zu, .bool false]) (fun w => ?_) ⟨[zu, .bool false], ⟨_, _, rz, ⟨_, _, rfl, rfl, rfl⟩, rfl⟩, rfl⟩
          simp only [Instr.typeAssert, Sem.run_bind, run_und hd, Result.andThen_ok, hx]
          cases d <;> simp_all
        · cases h
      · cases h
    · cases h
  · cases h
end
end Go.Ai

namespace Go.Ai
open Go
variable {P : Program} {ρ : Map}

/-! ### equality -/
theorem eqFs_sound {rec : TypeId → AV → AV → Option Bool} {d : Nat}
    (ih : ∀ t a b r, rec t a b = some r → ∀ x y, RV ρ a x → RV ρ b y → ∀ w, (Op.equalIn d t x y).run P w = .ok r w)
    {xs ys : List AV} {us vs : List Value} (rx : RVs ρ xs us) (ry : RVs ρ ys vs) :
    ∀ (fs : List Field) (r : Bool), eqFs P rec xs ys fs = some r → ∀ w, (Op.eqFields d us.toArray vs.toArray fs).run P w = .ok r w
  | [], r, h, w => by simp [eqFs] at h; subst h; rfl
  | f :: fs, r, h, w => by
    simp only [eqFs] at h
    split at h
    · cases h
    · rename_i hn
      have hne : f.name ≠ "_" := by intro e; simp [e] at hn
      split at h
      · rename_i a b ha hb
        obtain ⟨u, hu, ru⟩ := part_rv ha rx
        obtain ⟨v, hv, rv⟩ := part_rv hb ry
        simp only [Op.eqFields, if_pos hne, Sem.run_bind, hu, hv, Result.andThen_ok]
        split at h
        · rename_i hr
          rw [ih _ _ _ _ hr _ _ ru rv w]
          simp only [Result.andThen_ok, Bool.not_true, Bool.false_eq_true, if_false]
          exact eqFs_sound ih rx ry fs r h w
        · rename_i hr
          cases h
          rw [ih _ _ _ _ hr _ _ ru rv w]
          simp only [Result.andThen_ok, Bool.not_false, if_true, Sem.run_pure]
        · cases h
      · cases h

theorem beq_bytes (s u : List UInt8) : ((ByteArray.mk s.toArray) == (ByteArray.mk u.toArray)) = (s == u) := by
  rw [beq_toListBytes, ByteArray.toList_mk, ByteArray.toList_mk]

theorem rv_slice_some {i o eo l : Nat} {c : Option Nat} {x : Value} (r : RV ρ (.slice i o eo l c) x) : ∃ ad n c', x = .slice (some ad) n c' := by
  obtain ⟨e, _, h⟩ := r
  cases c with
  | some c => obtain ⟨o', _, _, h⟩ := h; exact ⟨_, _, _, h⟩
  | none => obtain ⟨o', _, _, h⟩ := h; exact ⟨_, _, _, h⟩

set_option maxHeartbeats 1000000 in
theorem eqIn_sound : ∀ (d : Nat) (t : TypeId) (a b : AV) (r : Bool), eqIn P d t a b = some r → ∀ x y, RV ρ a x → RV ρ b y →
    ∀ d', d ≤ d' → ∀ w, (Op.equalIn d' t x y).run P w = .ok r w
  | 0, t, a, b, r, h => by simp [eqIn] at h
  | d + 1, t, a, b, r, h => by
    intro x y rx ry d' hd w
    obtain ⟨d', rfl⟩ : ∃ k, d' = k + 1 := ⟨d' - 1, by omega⟩
    simp only [eqIn] at h
    split at h
    · rename_i hu; cases h; simp only [RV] at rx ry; subst rx ry; simp [Op.equalIn, run_und hu]
    · rename_i hu
      split at h
      · rename_i hk
        have := of_decide_eq_true hk
        subst this
        cases h; simp only [RV] at rx ry; subst rx ry; simp [Op.equalIn, run_und hu]
      · cases h
    · rename_i hu; cases h; simp only [RV] at rx ry; subst rx ry; simp [Op.equalIn, run_und hu, beq_bytes]
    · rename_i hu; cases h; simp only [RV] at rx ry; subst rx ry; simp [Op.equalIn, run_und hu]
    · rename_i hu; cases h; simp only [RV] at rx ry; obtain ⟨_, _, ry⟩ := ry; subst rx ry; simp [Op.equalIn, run_und hu]
    · rename_i hu; cases h; simp only [RV] at rx ry; obtain ⟨_, _, rx⟩ := rx; subst rx ry; simp [Op.equalIn, run_und hu]
    · rename_i hu; cases h; simp only [RV] at rx ry; subst rx ry; simp [Op.equalIn, run_und hu]
    · rename_i hu; cases h; simp only [RV] at rx ry; obtain ⟨_, _, ry⟩ := ry; subst rx ry; simp [Op.equalIn, run_und hu]
    · rename_i hu; cases h; simp only [RV] at rx ry; obtain ⟨_, _, rx⟩ := rx; subst rx ry; simp [Op.equalIn, run_und hu]
    · rename_i fs xs ys hu
      split at h
      · cases h
      · rename_i hst
        obtain ⟨us, rus, e1⟩ := rx
        obtain ⟨vs, rvs, e2⟩ := ry
        subst e1 e2
        have hf : P.fieldsOf t = fs := by simp [Program.fieldsOf, hu]
        rw [run_equalIn_struct w d' t _ _ (by rw [hf]; exact hu) hst, hf]
        exact eqFs_sound (fun t a b r hr x y rx ry w => eqIn_sound d t a b r hr x y rx ry d' (by omega) w) rus rvs fs.toList r h w
    · rename_i hu; cases h; simp only [RV] at rx ry; subst rx ry; simp [Op.equalIn, run_und hu]
    · rename_i hu; cases h; simp only [RV] at rx; obtain ⟨_, _, _, ry⟩ := rv_slice_some ry; subst rx ry; simp [Op.equalIn, run_und hu]
    · rename_i hu; cases h; simp only [RV] at ry; obtain ⟨_, _, _, rx⟩ := rv_slice_some rx; subst rx ry; simp [Op.equalIn, run_und hu]
    · rename_i hu; cases h; simp only [RV] at rx ry; obtain ⟨_, ry⟩ := ry; subst rx ry; simp [Op.equalIn, run_und hu]
    · rename_i hu; cases h; simp only [RV] at rx ry; obtain ⟨_, rx⟩ := rx; subst rx ry; simp [Op.equalIn, run_und hu]
    · rename_i hu; cases h; simp only [RV] at rx ry; subst rx ry; simp [Op.equalIn, run_und hu]
    · rename_i hu; cases h; simp only [RV] at rx ry; obtain ⟨_, _, ry⟩ := ry; subst rx ry; simp [Op.equalIn, run_und hu]
    · rename_i hu; cases h; simp only [RV] at rx ry; obtain ⟨_, _, rx⟩ := rx; subst rx ry; simp [Op.equalIn, run_und hu]
    · rename_i hu; cases h; simp only [RV] at rx ry; subst rx ry; simp [Op.equalIn, run_und hu]
    · rename_i hu; cases h; simp only [RV] at rx ry; obtain ⟨_, _, _, _, ry⟩ := ry; subst rx ry; simp [Op.equalIn, run_und hu]
    · rename_i hu; cases h; simp only [RV] at rx ry; obtain ⟨_, _, _, _, rx⟩ := rx; subst rx ry; simp [Op.equalIn, run_und hu]
    · cases h

theorem equal_sound {t : TypeId} {a b : AV} {r : Bool} (h : eqIn P 100 t a b = some r) {x y : Value} (rx : RV ρ a x) (ry : RV ρ b y) (w : World) :
    (Op.equal t x y).run P w = .ok r w := eqIn_sound 100 t a b r h x y rx ry 10000 (by omega) w

/-! ### the guard of == -/
theorem guard_other {op : BinOp} {t : TypeId} {x y : Operand} {u v : Value} (h1 : u ≠ .nilIface) (h2 : ∀ cs, u ≠ .agg cs) : eqGuard op t x y u v = pure () := by
  cases u with
  | nilIface => exact absurd rfl h1
  | agg cs => exact absurd rfl (h2 cs)
  | _ => cases op <;> rfl
theorem guard_other' {op : BinOp} {t : TypeId} {x y : Operand} {v : Value} (h1 : v ≠ .nilIface) : eqGuard op t x y .nilIface v = pure () := by
  cases v with
  | nilIface => exact absurd rfl h1
  | _ => cases op <;> rfl
theorem guard_other'' {op : BinOp} {t : TypeId} {x y : Operand} {us : Array Value} {v : Value} (h1 : ∀ cs, v ≠ .agg cs) : eqGuard op t x y (.agg us) v = pure () := by
  cases v with
  | agg cs => exact absurd rfl (h1 cs)
  | _ => cases op <;> rfl
theorem rv_nili {a : AV} (h : RV ρ a .nilIface) : a = .nili := by
  cases a with
  | nili => rfl
  | slice i o e l c => obtain ⟨_, _, _, h⟩ := rv_slice_some h; cases h
  | _ => simp [RV] at h
theorem rv_agg {a : AV} {cs : Array Value} (h : RV ρ a (.agg cs)) : ∃ l, a = .agg l := by
  cases a with
  | agg l => exact ⟨l, rfl⟩
  | slice i o e l c => obtain ⟨_, _, _, h⟩ := rv_slice_some h; cases h
  | _ => simp [RV] at h
theorem rv_int {a : AV} {k : IntKind} {n : Int} (h : RV ρ a (.int k n)) : a = .int k n := by
  cases a with
  | int k n => simp only [RV] at h; cases h; rfl
  | slice i o e l c => obtain ⟨_, _, _, h⟩ := rv_slice_some h; cases h
  | _ => simp [RV] at h
theorem rv_str {a : AV} {s : ByteArray} (h : RV ρ a (.string s)) : ∃ l, a = .str l := by
  cases a with
  | str l => exact ⟨l, rfl⟩
  | slice i o e l c => obtain ⟨_, _, _, h⟩ := rv_slice_some h; cases h
  | _ => simp [RV] at h
theorem rv_float {a : AV} {k : FloatKind} {n : Nat} (h : RV ρ a (.float k n)) : False := by
  cases a with
  | slice i o e l c => obtain ⟨_, _, _, h⟩ := rv_slice_some h; cases h
  | _ => simp [RV] at h
theorem rv_complex {a : AV} {k : FloatKind} {n m : Nat} (h : RV ρ a (.complex k n m)) : False := by
  cases a with
  | slice i o e l c => obtain ⟨_, _, _, h⟩ := rv_slice_some h; cases h
  | _ => simp [RV] at h

theorem guard_sound {op : BinOp} {t : TypeId} {x y : Operand} {a b : AV} (h : eqGuardOk P t x y a b = true) {u v : Value} (ru : RV ρ a u) (rv : RV ρ b v) (w : World) :
    (eqGuard op t x y u v).run P w = .ok () w := by
  by_cases h1 : u = .nilIface
  · subst h1
    by_cases h2 : v = .nilIface
    · subst h2
      have e1 := rv_nili ru
      have e2 := rv_nili rv
      subst e1 e2
      simp only [eqGuardOk] at h
      split at h
      · cases op <;> first | rfl | simp [eqGuard]
      · cases op <;> first | rfl | simp [eqGuard]
      · cases h
    · rw [guard_other' h2]; rfl
  · by_cases h2 : ∃ cs, u = .agg cs
    · obtain ⟨us, rfl⟩ := h2
      by_cases h3 : ∃ cs, v = .agg cs
      · obtain ⟨vs, rfl⟩ := h3
        obtain ⟨l1, e1⟩ := rv_agg ru
        obtain ⟨l2, e2⟩ := rv_agg rv
        subst e1 e2
        simp only [eqGuardOk] at h
        have h' : P.eqGuardType P.depth t = false := by simpa using h
        cases op <;> first | rfl | simp [eqGuard, h']
      · rw [guard_other'' (fun cs e => h3 ⟨cs, e⟩)]; rfl
    · rw [guard_other h1 (fun cs e => h2 ⟨cs, e⟩)]; rfl

theorem binOp_eql_other {t : TypeId} {x y : Value} (h1 : ∀ k n k' m, x = .int k n → y ≠ .int k' m) (h2 : ∀ s u, x = .string s → y ≠ .string u) (h3 : ∀ k n, x ≠ .float k n) (h4 : ∀ k n m, x ≠ .complex k n m) :
    binOp .eql t x y = (do pure (.bool (← Op.equal t x y))) := by
  cases x with
  | int k n => cases y <;> first | rfl | exact absurd rfl (h1 _ _ _ _ rfl)
  | string s => cases y <;> first | rfl | exact absurd rfl (h2 _ _ rfl)
  | float k n => exact absurd rfl (h3 _ _)
  | complex k n m => exact absurd rfl (h4 _ _ _)
  | _ => cases y <;> rfl
theorem binOp_neq_other {t : TypeId} {x y : Value} (h1 : ∀ k n k' m, x = .int k n → y ≠ .int k' m) (h2 : ∀ s u, x = .string s → y ≠ .string u) (h3 : ∀ k n, x ≠ .float k n) (h4 : ∀ k n m, x ≠ .complex k n m) :
    binOp .neq t x y = (do pure (.bool (!(← Op.equal t x y)))) := by
  cases x with
  | int k n => cases y <;> first | rfl | exact absurd rfl (h1 _ _ _ _ rfl)
  | string s => cases y <;> first | rfl | exact absurd rfl (h2 _ _ rfl)
  | float k n => exact absurd rfl (h3 _ _)
  | complex k n m => exact absurd rfl (h4 _ _ _)
  | _ => cases y <;> rfl

/-! ### numbers and strings -/
theorem wrap_in {n : Int} (h : inI64 n = true) : IntKind.i64.wrap n = n := by
  unfold inI64 at h
  have hb : -9223372036854775808 ≤ n ∧ n ≤ 9223372036854775807 := by
    split at h
    · rename_i m
      have : m < 9223372036854775808 := by simpa using h
      constructor <;> simp only [Int.ofNat_eq_natCast] <;> omega
    · rename_i m
      have : m < 9223372036854775808 := by simpa using h
      constructor
      · rw [Int.negSucc_eq]; omega
      · rw [Int.negSucc_eq]; omega
  exact IntWalk.i64_in n hb

theorem intOp_sound {op : BinOp} {t : TypeId} {k k' : IntKind} {a b : Int} {v : AV} (h : intOp P op t k k' a b = some v) :
    ∃ u, (∀ w, (binOp op t (.int k a) (.int k' b)).run P w = .ok u w) ∧ RV ρ v u := by
  unfold intOp at h
  split at h
  · unfold addI64 at h
    have e : binOp .add t (.int .i64 a) (.int .i64 b) = pure (.int .i64 (IntKind.i64.wrap (a + b))) := by simp [binOp, Op.intArith]
    split at h
    · rename_i hi
      cases h
      refine ⟨.int .i64 (a + b), fun w => ?_, rfl⟩
      rw [e, show (a + b : Int) = Int.add a b from rfl, wrap_in hi]; rfl
    · cases h
      exact ⟨_, fun w => by rw [e]; rfl, rfl⟩
  · unfold addI64 at h
    have e : binOp .sub t (.int .i64 a) (.int .i64 b) = pure (.int .i64 (IntKind.i64.wrap (a - b))) := by simp [binOp, Op.intArith]
    split at h
    · rename_i hi
      cases h
      refine ⟨.int .i64 (a - b), fun w => ?_, rfl⟩
      rw [e, show (a - b : Int) = Int.sub a b from rfl, wrap_in hi]; rfl
    · cases h
      exact ⟨_, fun w => by rw [e]; rfl, rfl⟩
  · split at h
    · rename_i u hu
      exact ⟨u, fun w => run_runP hu w, ofS_rv ρ h⟩
    · cases h

theorem strOp_sound {op : BinOp} {t : TypeId} {s s' : List UInt8} {v : AV} (h : strOp op s s' = some v) :
    ∃ u, (∀ w, (binOp op t (.string ⟨s.toArray⟩) (.string ⟨s'.toArray⟩)).run P w = .ok u w) ∧ RV ρ v u := by
  unfold strOp at h
  split at h
  · split at h
    · rename_i hb
      cases h
      refine ⟨.string ⟨(s ++ s').toArray⟩, fun w => ?_, rfl⟩
      have hl : s.length + s'.length < 4611686018427387904 := by simpa using hb
      simp only [binOp, Op.stringOp]
      have hsz : ∀ l : List UInt8, (ByteArray.mk l.toArray).size = l.length := fun l => by simp [ByteArray.size]
      rw [if_neg]
      · show Result.ok (Value.string (ByteArray.mk s.toArray ++ ByteArray.mk s'.toArray)) w = _
        have e : ByteArray.mk s.toArray ++ ByteArray.mk s'.toArray = ByteArray.mk (s ++ s').toArray := by
          apply ByteArray.ext
          simp
        rw [e]
      · rw [hsz, hsz, show IntKind.i64.max = 9223372036854775807 by decide]
        omega
    · cases h
  all_goals (try (cases h; refine ⟨_, fun w => by simp only [binOp, Op.stringOp, ByteArray.toList_mk]; rfl, by simp only [RV]⟩))
  all_goals cases h

section
variable {fr : Fr} {a : Act} {v : AV}
theorem s_bin {op : BinOp} {t : TypeId} {x y : Operand} (r : RF ρ fr a) (h : pBin P op t x y (fr.ev x) (fr.ev y) = some v) :
    YV P ρ (do pure (.value (← (do eqGuard op t x y (a.eval x) (a.eval y); binOp op t (a.eval x) (a.eval y))))) v := by
  unfold pBin at h
  split at h
  · rename_i u1 u2 h1 h2
    have r1 := r.ev h1
    have r2 := r.ev h2
    unfold binA at h
    split at h
    · rename_i k m k' n
      simp only [RV] at r1 r2
      obtain ⟨u, hu, ru⟩ := intOp_sound (ρ := ρ) h
      refine YV.of (u := u) (fun w => ?_) ru
      rw [r1, r2, eqGuard_at_int]
      simp only [Sem.run_bind, Sem.run_pure, Result.andThen_ok, hu]
    · rename_i s s'
      simp only [RV] at r1 r2
      obtain ⟨u, hu, ru⟩ := strOp_sound (P := P) (ρ := ρ) (t := t) h
      refine YV.of (u := u) (fun w => ?_) ru
      rw [r1, r2, eqGuard_at_string]
      simp only [Sem.run_bind, Sem.run_pure, Result.andThen_ok, hu]
    · rename_i hni hns
      split at h
      · split at h
        · rename_i hg
          split at h
          · rename_i b hb
            cases h
            refine YV.of (u := .bool b) (fun w => ?_) rfl
            have hq := equal_sound hb r1 r2 w
            have e : binOp .eql t (a.eval x) (a.eval y) = (do pure (.bool (← Op.equal t (a.eval x) (a.eval y)))) := by
              refine binOp_eql_other (fun k n k' m e1 e2 => ?_) (fun s u e1 e2 => ?_) (fun k n e => rv_float (by rw [e] at r1; exact r1)) (fun k n m e => rv_complex (by rw [e] at r1; exact r1))
              · rw [e1] at r1; rw [e2] at r2; exact hni k n k' m (rv_int r1) (rv_int r2)
              · rw [e1] at r1; rw [e2] at r2
                obtain ⟨l1, h1⟩ := rv_str r1
                obtain ⟨l2, h2⟩ := rv_str r2
                exact hns l1 l2 h1 h2
            rw [Sem.run_bind, guard_sound hg r1 r2, Result.andThen_ok, e]
            simp [hq]
          · cases h
        · cases h
      · split at h
        · rename_i hg
          split at h
          · rename_i b hb
            cases h
            refine YV.of (u := .bool (!b)) (fun w => ?_) rfl
            have hq := equal_sound hb r1 r2 w
            have e : binOp .neq t (a.eval x) (a.eval y) = (do pure (.bool (!(← Op.equal t (a.eval x) (a.eval y))))) := by
              refine binOp_neq_other (fun k n k' m e1 e2 => ?_) (fun s u e1 e2 => ?_) (fun k n e => rv_float (by rw [e] at r1; exact r1)) (fun k n m e => rv_complex (by rw [e] at r1; exact r1))
              · rw [e1] at r1; rw [e2] at r2; exact hni k n k' m (rv_int r1) (rv_int r2)
              · rw [e1] at r1; rw [e2] at r2
                obtain ⟨l1, h1⟩ := rv_str r1
                obtain ⟨l2, h2⟩ := rv_str r2
                exact hns l1 l2 h1 h2
            rw [Sem.run_bind, guard_sound hg r1 r2, Result.andThen_ok, e]
            simp [hq]
          · cases h
        · cases h
      · cases h
  · cases h
end
end Go.Ai

namespace Go.Ai
open Go
variable {P : Program} {ρ : Map}

/-- A bound, as the run sees it. -/
def ROB (o : Option Value) (dflt n : Nat) : Prop := (o = none ∧ n = dflt) ∨ ∃ k, o = some (.int k (n : Int))
/-- The bounds' values. -/
def ROV (ρ : Map) : Option AV → Option Value → Prop
  | none, v => v = none
  | some a, v => ∃ u, RV ρ a u ∧ v = some u
theorem bound_rob {a : Option AV} {o : Option Value} {d n : Nat} (h : boundA a d = some n) (r : ROV ρ a o) : ROB o d n := by
  cases a with
  | none => simp only [boundA, Option.some.injEq] at h; exact .inl ⟨r, h.symm⟩
  | some a =>
    obtain ⟨u, ru, e⟩ := r
    obtain ⟨k, hk⟩ := natOf_spec h ru
    exact .inr ⟨k, by rw [e, hk]⟩

theorem rsb (k : IntKind) {n y : Nat} (h : n ≤ y) (code : BoundsCode) (w : World) : (Instr.sliceBound (.int k n) y code).run P w = .ok n w := by
  rw [run_sliceBound _ k n y code (by omega) (by omega)]
  simp

theorem bounds_sound {len lim cap : Nat} {lo hi mx : Option AV} {l h : Nat} {om : Option Nat} (hb : boundsA len lim lo hi mx = some (l, h, om)) (hc : lim ≤ cap) (hl : len ≤ lim)
    {lo' hi' mx' : Option Value} (r1 : ROV ρ lo lo') (r2 : ROV ρ hi hi') (r3 : ROV ρ mx mx') (isSlice : Bool) :
    (∀ w, (Instr.sliceBounds isSlice len cap lo' hi' mx').run P w = .ok (l, h, om.getD cap) w) ∧ l ≤ h ∧ h ≤ om.getD cap ∧ h ≤ lim ∧ om.getD cap ≤ cap ∧ (mx = none ↔ om = none) ∧ (∀ m, om = some m → m ≤ lim) := by
  unfold boundsA at hb
  split at hb
  · simp only [ROV] at r3; subst r3
    split at hb
    · rename_i l0 h0 hlo hhi
      split at hb
      · rename_i hle
        cases hb
        simp only [Bool.and_eq_true, Nat.ble_eq] at hle
        have b1 := bound_rob hlo r1
        have b2 := bound_rob hhi r2
        refine ⟨fun w => ?_, hle.1, by simp; omega, hle.2, by simp, by simp, by simp⟩
        have hhc : h ≤ cap := by omega
        rcases b1 with ⟨rfl, rfl⟩ | ⟨k1, rfl⟩ <;> rcases b2 with ⟨rfl, rfl⟩ | ⟨k2, rfl⟩ <;>
          simp [Instr.sliceBounds, rsb _ hhc, rsb _ hle.1]
      · cases hb
    · cases hb
  · rename_i m0
    split at hb
    · rename_i hv m hm
      obtain ⟨um, rm, e3⟩ := r3
      obtain ⟨uh, rh, e2⟩ := r2
      split at hb
      · rename_i l0 h0 hlo hhi
        split at hb
        · rename_i hle
          cases hb
          simp only [Bool.and_eq_true, Nat.ble_eq] at hle
          have b1 := bound_rob hlo r1
          obtain ⟨km, hkm⟩ := natOf_spec hm rm
          obtain ⟨kh, hkh⟩ := natOf_spec hhi rh
          subst e3 e2 hkm hkh
          refine ⟨fun w => ?_, hle.1.1, by simpa using hle.1.2, by omega, by simp; omega, by simp, by simpa using hle.2⟩
          have hmc : m ≤ cap := by omega
          rcases b1 with ⟨rfl, rfl⟩ | ⟨k1, rfl⟩ <;>
            simp [Instr.sliceBounds, rsb _ hmc, rsb _ hle.1.2, rsb _ hle.1.1]
        · cases hb
      · cases hb
    · cases hb

section
variable {fr : Fr} {a : Act} {v : AV}
theorem evO_rov (r : RF ρ fr a) {x : Option Operand} {o : Option AV} (h : evO fr x = some o) : ROV ρ o (x.map a.eval) := by
  cases x with
  | none => simp only [evO, Option.some.injEq] at h; subst h; rfl
  | some x =>
    simp only [evO] at h
    split at h
    · rename_i u hu
      cases h
      exact ⟨_, r.ev hu, rfl⟩
    · cases h

theorem extract_str (s : List UInt8) (l h : Nat) : (ByteArray.mk s.toArray).extract l h = ⟨((s.drop l).take (h - l)).toArray⟩ := by
  apply ByteArray.ext
  simp [ByteArray.data_extract]

theorem run_sl {t e : TypeId} {es len cap l h m : Nat} {ad : Addr} {lo hi mx : Option Value} (hd : P.underlying t = some (.slice e)) (hes : sizeT P e = some es) {w : World}
    (hb : (Instr.sliceBounds true len cap lo hi mx).run P w = .ok (l, h, m) w) :
    (Instr.sliceAt t (.slice (some ad) len cap) lo hi mx).run P w = .ok (.slice (if m = l then some ad else some (ad.add (l * es))) (h - l) (m - l)) w := by
  simp only [Instr.sliceAt, Sem.run_bind, run_und hd, Result.andThen_ok, Instr.slice, hb, run_sizeT hes, Sem.run_pure]
  split <;> simp_all
theorem run_sla {t e : TypeId} {n es l h m : Nat} {ad : Addr} {lo hi mx : Option Value} (hd : P.underlying t = some (.array n e)) (hes : sizeT P e = some es) {w : World}
    (hb : (Instr.sliceBounds false n n lo hi mx).run P w = .ok (l, h, m) w) :
    (Instr.sliceAt t (.pointer (some ad)) lo hi mx).run P w = .ok (.slice (if m = l then some ad else some (ad.add (l * es))) (h - l) (m - l)) w := by
  simp only [Instr.sliceAt, Sem.run_bind, run_und hd, Result.andThen_ok, Instr.sureAddr, hb, run_sizeT hes, Sem.run_pure]
  split <;> simp_all
/-- the address behind a slicing -/
def slOff (o l es m : Nat) : Nat := if m = l then o else o + l * es
theorem slAddr (b o l es m : Nat) : (if m = l then some (Addr.mk b o none) else some ((Addr.mk b o none).add (l * es))) = some ⟨b, slOff o l es m, none⟩ := by
  unfold slOff
  split
  · rfl
  · rw [add_none]

theorem s_slice {t : TypeId} {x : Operand} {lo hi mx : Option Operand} (r : RF ρ fr a) (h : pSlice P t (fr.ev x) (evO fr lo) (evO fr hi) (evO fr mx) = some v) :
    YV P ρ (do pure (.value (← Instr.sliceAt t (a.eval x) (lo.map a.eval) (hi.map a.eval) (mx.map a.eval)))) v := by
  unfold pSlice at h
  split at h
  · rename_i u0 l0 h0 m0 hv hl hh hm
    have rx := r.ev hv
    have r1 := evO_rov r hl
    have r2 := evO_rov r hh
    have r3 := evO_rov r hm
    unfold sliceA sliceD at h
    split at h
    · rename_i s hd
      simp only [RV] at rx
      unfold sliceStr at h
      split at h
      · rename_i l hi0 hb
        cases h
        obtain ⟨hr, _, _, _, _, hmx, _⟩ := bounds_sound (P := P) (cap := s.length) hb (Nat.le_refl _) (Nat.le_refl _) r1 r2 r3 false
        have hm0 : m0 = none := hmx.2 rfl
        subst hm0
        have hmx' : mx.map a.eval = none := r3
        refine YV.of (u := .string ⟨((s.drop l).take (hi0 - l)).toArray⟩) (fun w => ?_) rfl
        have hsz : (ByteArray.mk s.toArray).size = s.length := by simp [ByteArray.size]
        simp only [Instr.sliceAt, Sem.run_bind, run_und hd, Result.andThen_ok, rx, Instr.slice, hmx', Option.isSome_none, Bool.false_eq_true, if_false, hsz]
        rw [hmx'] at hr
        rw [hr]
        simp [extract_str]
      · cases h
    · rename_i e hd
      simp only [RV] at rx
      unfold sliceNil at h
      split at h
      · rename_i es q hes hb
        cases h
        obtain ⟨l, hi0, om⟩ := q
        obtain ⟨hr, h1, h2, h3, h4, _, h5⟩ := bounds_sound (P := P) (cap := 0) hb (Nat.le_refl _) (Nat.le_refl _) r1 r2 r3 true
        refine YV.of (u := .slice none 0 0) (fun w => ?_) rfl
        have hm0' : om.getD 0 = 0 := by omega
        simp only [Instr.sliceAt, Sem.run_bind, run_und hd, Result.andThen_ok, rx, Instr.slice, hr]
        rw [run_sizeT hes]
        simp [hm0']
        omega
      · cases h
    · rename_i e hd
      obtain ⟨ad, hx⟩ := rx
      unfold sliceHole at h
      split at h
      · rename_i es q hes hb
        cases h
        obtain ⟨l, hi0, om⟩ := q
        obtain ⟨hr, h1, h2, h3, h4, _, h5⟩ := bounds_sound (P := P) (cap := 0) hb (Nat.le_refl _) (Nat.le_refl _) r1 r2 r3 true
        have hm0' : om.getD 0 = 0 := by omega
        have hl0 : l = 0 := by omega
        have hh0 : hi0 = 0 := by omega
        subst hl0 hh0
        refine YV.of (u := .slice (some ad) 0 0) (fun w => ?_) ⟨ad, rfl⟩
        have hr' := hr w
        rw [hm0'] at hr'
        rw [hx, run_sl hd hes hr']
        rfl
      · cases h
    · rename_i e id off eo len c hd
      obtain ⟨en, hen, o', hle, ho', hx⟩ := rx
      unfold sliceShut at h
      split at h
      · rename_i es l h0 hes hb
        cases h
        obtain ⟨hr, h1, h2, h3, h4, _, h5⟩ := bounds_sound (P := P) (cap := c) hb (Nat.le_refl _) hle r1 r2 r3 true
        simp only [Option.getD_none] at hr h2
        refine YV.of (u := .slice (some ⟨en.b, slOff (en.o + o') l es c, none⟩) (h0 - l) (c - l)) (fun w => ?_) ?_
        · rw [hx, run_sl hd hes (hr w), slAddr]
        · refine ⟨en, hen, slOff o' l es c, by show h0 - l ≤ c - l; omega, fun hp => ?_, ?_⟩
          · have hp' : 0 < c - l := hp
            rw [slOff, if_neg (by omega), ho' (by omega)]; rfl
          · congr 3; unfold slOff; split <;> omega
      · rename_i es l h0 m hes hb
        cases h
        obtain ⟨hr, h1, h2, h3, h4, _, h5⟩ := bounds_sound (P := P) (cap := c) hb (Nat.le_refl _) hle r1 r2 r3 true
        simp only [Option.getD_some] at hr h2 h4
        refine YV.of (u := .slice (some ⟨en.b, slOff (en.o + o') l es m, none⟩) (h0 - l) (m - l)) (fun w => ?_) ?_
        · rw [hx, run_sl hd hes (hr w), slAddr]
        · refine ⟨en, hen, slOff o' l es m, by show h0 - l ≤ m - l; omega, fun hp => ?_, ?_⟩
          · have hp' : 0 < m - l := hp
            rw [slOff, if_neg (by omega), ho' (by omega)]; rfl
          · congr 3; unfold slOff; split <;> omega
      · cases h
    · rename_i e id off eo len hd
      obtain ⟨en, hen, o', hle, ho', hx⟩ := rx
      unfold sliceOpen at h
      split at h
      · rename_i es l h0 hes hb
        cases h
        obtain ⟨hr, h1, h2, h3, h4, _, h5⟩ := bounds_sound (P := P) (cap := en.k - eo) hb (by omega) (Nat.le_refl _) r1 r2 r3 true
        simp only [Option.getD_none] at hr h2
        refine YV.of (u := .slice (some ⟨en.b, slOff (en.o + o') l es (en.k - eo), none⟩) (h0 - l) (en.k - eo - l)) (fun w => ?_) ?_
        · rw [hx, run_sl hd hes (hr w), slAddr]
        · refine ⟨en, hen, slOff o' l es (en.k - eo), by show eo + l + (h0 - l) ≤ en.k; omega, fun hp => ?_, ?_⟩
          · have hp' : eo + l < en.k := hp
            rw [slOff, if_neg (by omega), ho' (by omega)]; rfl
          · have e1 : en.k - eo - l = en.k - (eo + l) := by omega
            show Value.slice _ (h0 - l) (en.k - eo - l) = Value.slice _ (h0 - l) (en.k - (eo + l))
            rw [e1]
            congr 3; unfold slOff; split <;> omega
      · rename_i es l h0 m hes hb
        cases h
        obtain ⟨hr, h1, h2, h3, h4, _, h5⟩ := bounds_sound (P := P) (cap := en.k - eo) hb (by omega) (Nat.le_refl _) r1 r2 r3 true
        simp only [Option.getD_some] at hr h2 h4
        refine YV.of (u := .slice (some ⟨en.b, slOff (en.o + o') l es m, none⟩) (h0 - l) (m - l)) (fun w => ?_) ?_
        · rw [hx, run_sl hd hes (hr w), slAddr]
        · refine ⟨en, hen, slOff o' l es m, by show h0 - l ≤ m - l; omega, fun hp => ?_, ?_⟩
          · have hp' : 0 < m - l := hp
            rw [slOff, if_neg (by omega), ho' (by omega)]; rfl
          · congr 3; unfold slOff; split <;> omega
      · cases h
    · rename_i n e id off hd
      obtain ⟨en, hen, hx⟩ := rx
      unfold sliceShut at h
      split at h
      · rename_i es l h0 hes hb
        cases h
        obtain ⟨hr, h1, h2, h3, h4, _, h5⟩ := bounds_sound (P := P) (cap := n) hb (Nat.le_refl _) (Nat.le_refl _) r1 r2 r3 false
        simp only [Option.getD_none] at hr h2
        refine YV.of (u := .slice (some ⟨en.b, slOff (en.o + off) l es n, none⟩) (h0 - l) (n - l)) (fun w => ?_) ?_
        · rw [hx, run_sla hd hes (hr w), slAddr]
        · refine ⟨en, hen, slOff off l es n, by show h0 - l ≤ n - l; omega, fun hp => ?_, ?_⟩
          · have hp' : 0 < n - l := hp
            rw [slOff, if_neg (by omega)]; rfl
          · congr 3; unfold slOff; split <;> omega
      · rename_i es l h0 m hes hb
        cases h
        obtain ⟨hr, h1, h2, h3, h4, _, h5⟩ := bounds_sound (P := P) (cap := n) hb (Nat.le_refl _) (Nat.le_refl _) r1 r2 r3 false
        simp only [Option.getD_some] at hr h2 h4
        refine YV.of (u := .slice (some ⟨en.b, slOff (en.o + off) l es m, none⟩) (h0 - l) (m - l)) (fun w => ?_) ?_
        · rw [hx, run_sla hd hes (hr w), slAddr]
        · refine ⟨en, hen, slOff off l es m, by show h0 - l ≤ m - l; omega, fun hp => ?_, ?_⟩
          · have hp' : 0 < m - l := hp
            rw [slOff, if_neg (by omega)]; rfl
          · congr 3; unfold slOff; split <;> omega
      · cases h
    · cases h
  · cases h

theorem s_un {op : UnOp} {x : Operand} (r : RF ρ fr a) (h : pUn P op (fr.ev x) = some v) : YV P ρ (do pure (.value (← Op.unary op (a.eval x)))) v := by
  unfold pUn at h
  split at h
  · rename_i u hu
    unfold pUn2 at h
    split at h
    · rename_i y hy
      split at h
      · rename_i z hz
        have e := toS_rv hy (r.ev hu)
        refine YV.of (u := z) (fun w => ?_) (ofS_rv ρ h)
        rw [e]; exact run_runP hz w
      · cases h
    · cases h
  · cases h

/-- THE OPERATIONS THAT ONLY LOOK AT THEIR OPERANDS. -/
theorem pure_sound {o : Oper} (r : RF ρ fr a) (h : pureOp P fr o.op = some v) : YV P ρ (execOp a.eval o) v := by
  obtain ⟨dst, op, ty, pos, after, gd⟩ := o
  simp only at h
  unfold pureOp at h
  split at h
  · exact s_move r h
  · exact s_move r h
  · exact s_pick r h
  · exact s_build r h
  · exact s_nil r h
  · exact s_bin r h
  · exact s_un r h
  · exact s_mkI r h
  · exact s_mkF r h
  · exact s_slice r h
  · exact s_fieldAddr r h
  · exact s_field r h
  · exact s_indexAddr r h
  · exact s_index r h
  · exact s_typeAssert r h
  · exact s_extract r h
  · cases h
end
end Go.Ai

namespace Go.Ai
open Go
variable {P : Program} {ρ : Map}

/-! ### what stands for what in memory -/
def REs (ρ : Map) : List (AV × AV × Nat) → List MapEntry → Prop
  | [], l => l = []
  | (k, v, b) :: r, l => ∃ k' v' l', RV ρ k k' ∧ RV ρ v v' ∧ REs ρ r l' ∧ l = ⟨k', v', b⟩ :: l'

/-- how a range over a function stands -/
def stOf : Nat → LoopState
  | 0 => .ready
  | 1 => .busy
  | 2 => .done
  | _ => .exhausted

def RB (ρ : Map) (e : Ent) : AB → Obj → Prop
  | .dead, _ => True
  | .row cs n es tg, ob => ∃ (c : Array Value) (ty : TypeId) (lo hi : Nat), ob = .cells c ty (lo, hi) ∧ (∀ u, tg = u + 1 → ty = u ∧ (es = 0 → e.o = 0 ∧ c.size = n)) ∧ e.o + n ≤ c.size ∧ e.o + e.k * es ≤ c.size ∧ (0 < es → n ≤ e.k * es) ∧ (c.size ≤ lo ∨ hi ≤ lo) ∧
      ∀ i, i < n → ∀ av, cs.get i = some av → ∃ v, c[e.o + i]? = some v ∧ RV ρ av v
  | .rom cs n, ob => ∃ (c : Array Value) (ty : TypeId) (fz : Nat × Nat), ob = .cells c ty fz ∧ e.o + n ≤ c.size ∧
      ∀ i, i < n → ∀ av, cs.get i = some av → ∃ v, c[e.o + i]? = some v ∧ RV ρ av v
  | .map es clock, ob => ∃ ents : Array MapEntry, ob = .map ents clock ∧ REs ρ es ents.toList
  | .mit m since seen stepped, ob => ∃ m', e.o = 0 ∧ ob = .mapIter m' since seen.toArray stepped ∧
      match m with
      | none => m' = none
      | some id => ∃ e', ρ id = some e' ∧ m' = some e'.b
  | .loop st jump n t ps assign body, ob => ∃ (fn : FuncId) (tmps : Array Value) (d : Nat), ob = .loop { state := stOf st, pending := jump, fn, tmps, params := ps.toArray, assign, body, defers := d } ∧ tmps.size = n ∧
      ∀ i, RV ρ ((t.get i).getD .undef) (tmps.getD i undef)
  | .defs o, ob => ob = .deferred (if o then some [] else none)

theorem REs.mono {ρ ρ' : Map} (h : Mono ρ ρ') : ∀ {es : List (AV × AV × Nat)} {l : List MapEntry}, REs ρ es l → REs ρ' es l
  | [], _, r => r
  | (_, _, _) :: _, _, ⟨k', v', l', rk, rv, rs, e⟩ => ⟨k', v', l', RV.mono h _ _ rk, RV.mono h _ _ rv, REs.mono h rs, e⟩
theorem RB.mono {ρ ρ' : Map} (h : Mono ρ ρ') {e : Ent} {ab : AB} {ob : Obj} (r : RB ρ e ab ob) : RB ρ' e ab ob := by
  cases ab with
  | dead => trivial
  | row cs n es tg =>
    obtain ⟨c, ty, lo, hi, e1, h0, h1, h2, h3, h4, h5⟩ := r
    exact ⟨c, ty, lo, hi, e1, h0, h1, h2, h3, h4, fun i hi av ha => let ⟨v, hv, rv⟩ := h5 i hi av ha; ⟨v, hv, RV.mono h _ _ rv⟩⟩
  | rom cs n =>
    obtain ⟨c, ty, fz, e1, h1, h5⟩ := r
    exact ⟨c, ty, fz, e1, h1, fun i hi av ha => let ⟨v, hv, rv⟩ := h5 i hi av ha; ⟨v, hv, RV.mono h _ _ rv⟩⟩
  | map es clock => obtain ⟨ents, e1, r⟩ := r; exact ⟨ents, e1, REs.mono h r⟩
  | mit m since seen stepped =>
    obtain ⟨m', e0, e1, r⟩ := r
    refine ⟨m', e0, e1, ?_⟩
    cases m with
    | none => exact r
    | some id => obtain ⟨e', he, hm⟩ := r; exact ⟨e', h _ _ he, hm⟩
  | loop st jump n t ps assign body => obtain ⟨fn, tmps, d, e1, h1, h2⟩ := r; exact ⟨fn, tmps, d, e1, h1, fun i => RV.mono h _ _ (h2 i)⟩
  | defs o => exact r

abbrev GetF := Nat → Option AB

/-- a block that is neither dead nor only read -/
def Mine : AB → Prop
  | .dead => False
  | .rom _ _ => False
  | _ => True
theorem Mine.nd {ab : AB} (h : Mine ab) : ab ≠ .dead := by rintro rfl; exact h
/-- where it lies: what is only read lies below the base -/
def At (base : Nat) (ab : AB) (b : Nat) : Prop :=
  match ab with
  | .rom _ _ => b < base
  | _ => base ≤ b
theorem At.mine {base : Nat} {ab : AB} {b : Nat} (h : At base ab b) (m : Mine ab) : base ≤ b := by cases ab <;> first | exact h | exact m.elim
theorem At.rom_or {base : Nat} {ab : AB} {b : Nat} (h : At base ab b) (hd : ab ≠ .dead) : Mine ab ∨ b < base := by cases ab <;> first | exact .inl trivial | exact .inr h | exact absurd rfl hd
def NoRom (ab : AB) : Prop := ∀ t n, ab ≠ .rom t n
theorem At.new {base : Nat} {ab : AB} {b : Nat} (h : base ≤ b) (hn : NoRom ab) : At base ab b := by cases ab <;> first | exact h | exact absurd rfl (hn _ _)
attribute [simp] Mine NoRom
def live (g : GetF) (i : Nat) : Prop := ∃ ab, g i = some ab ∧ Mine ab
/-- a block that is there -/
def there (g : GetF) (i : Nat) : Prop := ∃ ab, g i = some ab ∧ ab ≠ .dead

/-- The package-level variables that are known. -/
def RG (G : Glob) (base : Nat) (w : World) : Prop :=
  ∀ g l, gget G g = some l → g < base ∧ ∃ (c : Array Value) (ty : TypeId) (fz : Nat × Nat), w.heap[g]? = some (.cells c ty fz) ∧ c.size = l.length ∧
    ∀ (i : Nat) (av : AV), l[i]? = some av → ∃ v, c[i]? = some v ∧ RV (fun _ => none) av v

/-- The blocks of an abstract heap, in the world. -/
structure RH (ρ : Map) (base : Nat) (g : GetF) (w : World) : Prop where
  blk : ∀ i ab, g i = some ab → ab ≠ .dead → ∃ e ob, ρ i = some e ∧ At base ab e.b ∧ w.heap[e.b]? = some ob ∧ RB ρ e ab ob
  inj : ∀ i j e e', live g i → live g j → ρ i = some e → ρ j = some e' → e.b = e'.b → i = j

/-- fewer blocks -/
theorem RH.sub {ρ : Map} {base : Nat} {g g' : GetF} {w : World} (r : RH ρ base g w) (h : ∀ i ab, g' i = some ab → ab ≠ .dead → g i = some ab) : RH ρ base g' w :=
  ⟨fun i ab hi hd => r.blk i ab (h i ab hi hd) hd, fun i j e e' ⟨a, ga, da⟩ ⟨b, gb, db⟩ => r.inj i j e e' ⟨a, h i a ga da.nd, da⟩ ⟨b, h j b gb db.nd, db⟩⟩

/-- the concrete blocks of an abstract heap -/
def owns (ρ : Map) (g : GetF) (b : Nat) : Prop := ∃ i e, live g i ∧ ρ i = some e ∧ e.b = b

/-- From w to w', where the blocks of g may be written: all other memory is as it was. -/
structure Keeps (own : Nat → Prop) (w w' : World) : Prop where
  os : w'.os = w.os
  tape : w'.tape = w.tape
  output : w'.output = w.output
  size : w.heap.size ≤ w'.heap.size
  block : ∀ b, b < w.heap.size → ¬ own b → w'.heap[b]? = w.heap[b]?

theorem Keeps.refl (own : Nat → Prop) (w : World) : Keeps own w w := ⟨rfl, rfl, rfl, Nat.le_refl _, fun _ _ _ => rfl⟩
theorem Keeps.trans {o1 o2 : Nat → Prop} {a b c : World} (h : Keeps o1 a b) (k : Keeps o2 b c) (ho : ∀ x, o2 x → o1 x ∨ a.heap.size ≤ x) : Keeps o1 a c :=
  ⟨k.os.trans h.os, k.tape.trans h.tape, k.output.trans h.output, Nat.le_trans h.size k.size, fun x hx hn =>
    (k.block x (Nat.lt_of_lt_of_le hx h.size) (fun h2 => (ho x h2).elim hn (fun hge => by omega))).trans (h.block x hx hn)⟩
theorem Keeps.drew (own : Nat → Prop) (w : World) : Keeps own w w.drew := ⟨rfl, rfl, rfl, Nat.le_refl _, fun _ _ _ => rfl⟩
theorem RG.keeps {G : Glob} {base : Nat} {w w' : World} (h : RG G base w) {own : Nat → Prop} (k : Keeps own w w') (ho : ∀ b, own b → base ≤ b) : RG G base w' := by
  intro g l hg
  obtain ⟨hb, c, ty, fz, hc, hv⟩ := h g l hg
  refine ⟨hb, c, ty, fz, ?_, hv⟩
  have hlt : g < w.heap.size := by
    rcases Nat.lt_or_ge g w.heap.size with h | h
    · exact h
    · rw [Array.getElem?_eq_none h] at hc; cases hc
  rw [k.block g hlt (fun hw => by have := ho g hw; omega)]; exact hc
theorem RH.size {base : Nat} {g : GetF} {w : World} (r : RH ρ base g w) {i : Nat} {ab : AB} (h : g i = some ab) (hd : ab ≠ .dead) {e : Ent} (he : ρ i = some e) : e.b < w.heap.size := by
  obtain ⟨e', ob, h1, _, h3, _⟩ := r.blk i ab h hd
  rw [he] at h1; cases h1
  rcases Nat.lt_or_ge e.b w.heap.size with h | h
  · exact h
  · rw [Array.getElem?_eq_none h] at h3; cases h3
theorem owns_base {base : Nat} {g : GetF} {w : World} (r : RH ρ base g w) : ∀ b, owns ρ g b → base ≤ b := by
  rintro b ⟨i, e, ⟨ab, gi, di⟩, he, rfl⟩
  obtain ⟨e', ob, h1, h2, _⟩ := r.blk i ab gi di.nd
  rw [he] at h1; cases h1; exact h2.mine di

/-! ### reading -/
theorem rowGet_spec {cs : T AV} : ∀ {n off : Nat} {l : List AV}, rowGet cs off n = some l → l.length = n ∧ ∀ j, j < n → cs.get (off + j) = l[j]?
  | 0, off, l, h => by simp [rowGet] at h; subst h; exact ⟨rfl, fun j hj => by omega⟩
  | n + 1, off, l, h => by
    simp only [rowGet] at h
    split at h
    · rename_i v hv
      split at h
      · rename_i vs hvs
        cases h
        obtain ⟨h1, h2⟩ := rowGet_spec hvs
        refine ⟨by simp [h1], fun j hj => ?_⟩
        cases j with
        | zero => simpa using hv
        | succ j => have := h2 j (by omega); rw [show off + (j + 1) = off + 1 + j by omega]; simpa using this
      · cases h
    · cases h

theorem cell_row {w : World} {b o : Nat} {c : Array Value} {ty : TypeId} {fz : Nat × Nat} (h : w.heap[b]? = some (.cells c ty fz)) : w.cell? ⟨b, o, none⟩ = c[o]? := by
  simp [World.cell?, h]

theorem rvs_of_get {ρ : Map} : ∀ {l : List AV} {f : Nat → Option Value}, (∀ (j : Nat) (av : AV), l[j]? = some av → ∃ v, f j = some v ∧ RV ρ av v) → ∃ vs, RVs ρ l vs ∧ ∀ (j : Nat) (v : Value), vs[j]? = some v → f j = some v
  | [], f, _ => ⟨[], by simp [RVs], by simp⟩
  | a :: l, f, h => by
    obtain ⟨v, hv, rv⟩ := h 0 a (by simp)
    obtain ⟨vs, rs, hs⟩ := rvs_of_get (l := l) (f := fun j => f (j + 1)) (fun j av hj => h (j + 1) av (by simpa using hj))
    refine ⟨v :: vs, ⟨v, vs, rv, rs, rfl⟩, fun j u hj => ?_⟩
    cases j with
    | zero => simp at hj; subst hj; exact hv
    | succ j => exact hs j u (by simpa using hj)

/-- cells of a block -/
theorem readCells_rv {base : Nat} {h : Heap} {w : World} (r : RH ρ base (hget h) w) {id off n : Nat} {cs : List AV} (hr : readCells h id off n = some cs) {e : Ent} (he : ρ id = some e) :
    cs.length = n ∧ ∃ vs, RVs ρ cs vs ∧ ∀ j v, vs[j]? = some v → w.cell? ((Addr.mk e.b (e.o + off) none).add j) = some v := by
  unfold readCells at hr
  split at hr
  · rename_i t m es tg hg
    split at hr
    · rename_i hle
      have hle' : off + n ≤ m := by simpa using hle
      obtain ⟨hl, hget⟩ := rowGet_spec hr
      obtain ⟨e', ob, h1, h2, h3, c, ty, lo, hi, h4, _, h5, h6, h7, h8, h9⟩ := r.blk id _ hg (by simp)
      rw [he] at h1; cases h1
      subst h4
      refine ⟨hl, ?_⟩
      obtain ⟨vs, rs, hs⟩ := rvs_of_get (ρ := ρ) (l := cs) (f := fun j => c[e.o + off + j]?) (fun j av hj => by
        have hjn : j < n := by
          rcases Nat.lt_or_ge j n with h | h
          · exact h
          · rw [List.getElem?_eq_none (by omega)] at hj; cases hj
        have := hget j hjn
        rw [hj] at this
        obtain ⟨v, hv, rv⟩ := h9 (off + j) (by omega) av this
        exact ⟨v, by rw [Nat.add_assoc]; exact hv, rv⟩)
      refine ⟨vs, rs, fun j v hj => ?_⟩
      rw [add_none, cell_row h3]
      exact hs j v hj
    · cases hr
  · rename_i t m hg
    split at hr
    · rename_i hle
      have hle' : off + n ≤ m := by simpa using hle
      obtain ⟨hl, hget⟩ := rowGet_spec hr
      obtain ⟨e', ob, h1, h2, h3, c, ty, fz, h4, h5, h9⟩ := r.blk id _ hg (by simp)
      rw [he] at h1; cases h1
      subst h4
      refine ⟨hl, ?_⟩
      obtain ⟨vs, rs, hs⟩ := rvs_of_get (ρ := ρ) (l := cs) (f := fun j => c[e.o + off + j]?) (fun j av hj => by
        have hjn : j < n := by
          rcases Nat.lt_or_ge j n with h | h
          · exact h
          · rw [List.getElem?_eq_none (by omega)] at hj; cases hj
        have := hget j hjn
        rw [hj] at this
        obtain ⟨v, hv, rv⟩ := h9 (off + j) (by omega) av this
        exact ⟨v, by rw [Nat.add_assoc]; exact hv, rv⟩)
      refine ⟨vs, rs, fun j v hj => ?_⟩
      rw [add_none, cell_row h3]
      exact hs j v hj
    · cases hr
  · cases hr

theorem readAt_rv {G : Glob} {base : Nat} {h : Heap} {w : World} (r : RH ρ base (hget h) w) (rg : RG G base w) {v : AV} {n : Nat} {cs : List AV} (hr : readAt G h v n = some cs) {x : Value} (rx : RV ρ v x) :
    cs.length = n ∧ ∃ ad vs, x = .pointer (some ad) ∧ RVs ρ cs vs ∧ ∀ j u, vs[j]? = some u → w.cell? (ad.add j) = some u := by
  unfold readAt at hr
  split at hr
  · obtain ⟨e, he, hx⟩ := rx
    obtain ⟨hl, vs, rs, hs⟩ := readCells_rv r hr he
    exact ⟨hl, _, vs, hx, rs, hs⟩
  · rename_i g off
    simp only [RV] at rx
    split at hr
    · rename_i l hg
      split at hr
      · rename_i hle
        cases hr
        have hle' : off + n ≤ l.length := by simpa using hle
        obtain ⟨_, c, ty, fz, hc, _, hv⟩ := rg g l hg
        refine ⟨by simp; omega, ⟨g, off, none⟩, ?_⟩
        obtain ⟨vs, rs, hs⟩ := rvs_of_get (ρ := ρ) (l := (l.drop off).take n) (f := fun j => c[off + j]?) (fun j av hj => by
          have : l[off + j]? = some av := by
            rw [List.getElem?_take] at hj
            split at hj
            · simpa using hj
            · cases hj
          obtain ⟨u, hu, ru⟩ := hv _ _ this
          exact ⟨u, hu, RV.mono (fun _ _ h => by cases h) _ _ ru⟩)
        refine ⟨vs, rx, rs, fun j u hj => ?_⟩
        rw [add_none, cell_row hc]
        exact hs j u hj
      · cases hr
    · cases hr
  · cases hr

theorem loadA_rv {G : Glob} {base : Nat} {h : Heap} {w : World} (r : RH ρ base (hget h) w) (rg : RG G base w) {t : TypeId} {v p : AV} (hr : loadA P G h t p = some v) {x : Value} (rx : RV ρ p x) :
    ∃ u, (Instr.loadAt t x).run P w = .ok u w ∧ RV ρ v u ∧ ∃ ad, x = .pointer (some ad) ∧ (loadVar t ad).run P w = .ok u w := by
  unfold loadA at hr
  split at hr
  · rename_i ha
    split at hr
    · rename_i n hn
      split at hr
      · rename_i cs hcs
        cases hr
        obtain ⟨hl, ad, vs, hx, rs, hs⟩ := readAt_rv r rg hcs rx
        have hlen : vs.length = n := by rw [← RVs.length rs, hl]
        have e : (loadVar t ad).run P w = .ok (.agg vs.toArray) w := by
          simp only [loadVar, Sem.run_bind, run_isAggT ha, Result.andThen_ok, if_true, run_sizeT hn]
          rw [← hlen, run_loadCells_list (P := P) w ad vs hs]
          rfl
        refine ⟨.agg vs.toArray, ?_, ⟨vs, rs, rfl⟩, ad, hx, e⟩
        simp only [Instr.loadAt, Sem.run_bind, hx, Instr.sureAddr, Sem.run_pure, Result.andThen_ok, e]
      · cases hr
    · cases hr
  · rename_i ha
    split at hr
    · rename_i c hc
      cases hr
      obtain ⟨hl, ad, vs, hx, ⟨u, us, ru, rs, hvs⟩, hs⟩ := readAt_rv r rg hc rx
      subst hvs
      have hcell : w.cell? ad = some u := by
        have := hs 0 u (by simp)
        simpa [Addr.add] using this
      have e : (loadVar t ad).run P w = .ok u w := by
        simp only [loadVar, Sem.run_bind, run_isAggT ha, Result.andThen_ok, Bool.false_eq_true, if_false, run_load, hcell]
      refine ⟨u, ?_, ru, ad, hx, e⟩
      simp only [Instr.loadAt, Sem.run_bind, hx, Instr.sureAddr, Sem.run_pure, Result.andThen_ok, e]
    · cases hr
  · cases hr

end Go.Ai

