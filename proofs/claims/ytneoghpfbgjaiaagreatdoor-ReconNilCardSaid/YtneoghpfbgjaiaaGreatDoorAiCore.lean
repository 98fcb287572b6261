/- A part of an evaluator over an abstract heap and of the proof that it is sound for the model. CONDITIONS: those that each theorem names. -/
import Derived.Recover
import Derived.Orders
/-! An evaluator of the model's code over an abstract heap. -/
namespace Go.Ai

/-! ### tries: numbers to things -/
inductive T (α : Type) where
  | e : T α
  | n (l : T α) (v : Option α) (r : T α) : T α

noncomputable def T.get {α : Type} (t : T α) : Nat → Option α :=
  T.rec (motive := fun _ => Nat → Option α) (fun _ => none)
    (fun _ v _ gl gr k => Bool.casesOn (motive := fun _ => Option α) (Nat.beq k 0)
      (Bool.casesOn (motive := fun _ => Option α) (Nat.beq (Nat.mod k 2) 1) (gr (Nat.sub (Nat.div k 2) 1)) (gl (Nat.div k 2))) v) t

noncomputable def T.setF {α : Type} : Nat → T α → Nat → α → T α
  | 0, t, _, _ => t
  | f + 1, .e, k, x =>
    match Nat.beq k 0 with
    | true => .n .e (some x) .e
    | false =>
      match Nat.beq (k % 2) 1 with
      | true => .n (T.setF f .e (k / 2) x) none .e
      | false => .n .e none (T.setF f .e (k / 2 - 1) x)
  | f + 1, .n l v r, k, x =>
    match Nat.beq k 0 with
    | true => .n l (some x) r
    | false =>
      match Nat.beq (k % 2) 1 with
      | true => .n (T.setF f l (k / 2) x) v r
      | false => .n l v (T.setF f r (k / 2 - 1) x)

noncomputable def T.set {α : Type} (t : T α) (k : Nat) (x : α) : T α := T.setF (k + 1) t k x

noncomputable def T.setList {α : Type} : T α → Nat → List α → T α
  | t, _, [] => t
  | t, k, x :: xs => T.setList (t.set k x) (k + 1) xs

/-! ### strict twins: the kernel reckons what it is handed before it goes on -/
noncomputable def natC {β : Type} (n : Nat) (k : Nat → β) : β :=
  match n with
  | 0 => k 0
  | m + 1 => k (Nat.succ m)
noncomputable def intC {β : Type} (n : Int) (k : Int → β) : β :=
  match n with
  | .ofNat m => natC m fun m => k (.ofNat m)
  | .negSucc m => natC m fun m => k (.negSucc m)
noncomputable def boolC {β : Type} (b : Bool) (k : Bool → β) : β :=
  match b with
  | true => k true
  | false => k false
noncomputable def listC {α β : Type} : List α → (List α → β) → β
  | [], k => k []
  | x :: xs, k => listC xs fun xs => k (x :: xs)
noncomputable def T.setFC {α β : Type} (f : Nat) : T α → Nat → α → (T α → β) → β :=
  Nat.rec (motive := fun _ => T α → Nat → α → (T α → β) → β) (fun t _ _ c => c t)
    (fun _ ih t k x c => T.casesOn (motive := fun _ => β) t
      (Bool.casesOn (motive := fun _ => β) (Nat.beq k 0)
        (Bool.casesOn (motive := fun _ => β) (Nat.beq (Nat.mod k 2) 1)
          (ih .e (Nat.sub (Nat.div k 2) 1) x fun t => c (.n .e none t))
          (ih .e (Nat.div k 2) x fun t => c (.n t none .e)))
        (c (.n .e (some x) .e)))
      (fun l v r => Bool.casesOn (motive := fun _ => β) (Nat.beq k 0)
        (Bool.casesOn (motive := fun _ => β) (Nat.beq (Nat.mod k 2) 1)
          (ih r (Nat.sub (Nat.div k 2) 1) x fun t => c (.n l v t))
          (ih l (Nat.div k 2) x fun t => c (.n t v r)))
        (c (.n l (some x) r)))) f
noncomputable def T.setC {α β : Type} (t : T α) (k : Nat) (x : α) (c : T α → β) : β := T.setFC (Nat.succ k) t k x c
noncomputable def T.setListC {α β : Type} : T α → Nat → List α → (T α → β) → β
  | t, _, [], c => c t
  | t, k, x :: xs, c => T.setC t k x fun t => natC (Nat.succ k) fun k => T.setListC t k xs c

/-! ### abstract values -/
inductive AV where
  | bool (b : Bool)
  | int (k : IntKind) (n : Int)
  | str (s : List UInt8)
  | nilp
  | ptr (id off : Nat)
  | gptr (g off : Nat)
  | nils
  | slice (id off eo len : Nat) (cap : Option Nat)
  | nilm
  | map (id : Nat)
  | fn (f : Fn) (first captured : List AV)
  | nilf
  | iface (t : TypeId) (v : AV)
  | nili
  | agg (cs : List AV)
  | tup (vs : List AV)
  deriving Inhabited

noncomputable def AV.undef : AV := .tup []

inductive AB where
  | dead
  | row (cs : T AV) (n : Nat) (es : Nat)
  | map (es : List (AV × AV × Nat)) (clock : Nat)
  | mit (m : Option Nat) (since : Nat) (seen : List Nat) (stepped : Nat)
  deriving Inhabited

abbrev Heap := T (T AB)
noncomputable def KS : Nat := 16777216
noncomputable def hget (h : Heap) (k : Nat) : Option AB :=
  match h.get (Nat.div k 16777216) with
  | some t => t.get (Nat.mod k 16777216)
  | none => none
noncomputable def hset (h : Heap) (k : Nat) (b : AB) : Heap :=
  match h.get (Nat.div k 16777216) with
  | some t => h.set (Nat.div k 16777216) (t.set (Nat.mod k 16777216) b)
  | none => h.set (Nat.div k 16777216) (T.e.set (Nat.mod k 16777216) b)

noncomputable def hsetC {β : Type} (h : Heap) (k : Nat) (b : AB) (c : Heap → β) : β :=
  match h.get (Nat.div k 16777216) with
  | some t => T.setC t (Nat.mod k 16777216) b fun t => T.setC h (Nat.div k 16777216) t c
  | none => T.setC T.e (Nat.mod k 16777216) b fun t => T.setC h (Nat.div k 16777216) t c

noncomputable def avC {β : Type} (v : AV) (c : AV → β) : β :=
  match v with
  | .bool b => boolC b fun b => c (.bool b)
  | .int k n => intC n fun n => c (.int k n)
  | .str s => listC s fun s => c (.str s)
  | .ptr i o => natC i fun i => natC o fun o => c (.ptr i o)
  | .gptr i o => natC o fun o => c (.gptr i o)
  | .slice i o e l cp => natC i fun i => natC o fun o => natC e fun e => natC l fun l => match cp with
    | some cp => natC cp fun cp => c (.slice i o e l (some cp))
    | none => c (.slice i o e l none)
  | .map i => natC i fun i => c (.map i)
  | v => c v

structure St where
  h : Heap
  fc : Nat

noncomputable def St.withH (s : St) (h : Heap) : St :=
  match s with
  | ⟨_, fc⟩ => ⟨h, fc⟩
/-- the block, reckoned as far as its head -/
noncomputable def abC {β : Type} (b : AB) (c : AB → β) : β :=
  match b with
  | .dead => c .dead
  | .row t n es => c (.row t n es)
  | .map es k => natC k fun k => c (.map es k)
  | .mit m a s k => c (.mit m a s k)
noncomputable def St.upd (s : St) (k : Nat) (b : AB) : St :=
  match s with
  | ⟨h, fc⟩ => abC b fun b => natC k fun k => hsetC h k b fun h => ⟨h, fc⟩
noncomputable def St.setC {β : Type} (s : St) (k : Nat) (b : AB) (c : St → β) : β :=
  match s with
  | ⟨h, fc⟩ => hsetC h k b fun h => c ⟨h, fc⟩

inductive Rc where
  | no
  | idle
  | live (v : AV) (done : Bool)

structure Fr where
  fno : Nat
  lc : Nat
  n : Nat
  t : T AV
  df : List (AV × List AV)
  rc : Rc

noncomputable def Fr.put (fr : Fr) (dst : Option Tmp) (v : AV) : Option Fr :=
  match dst with
  | none => some fr
  | some d => match fr with
    | ⟨fno, lc, n, t, df, rc⟩ => match Nat.blt d n with
      | true => avC v fun v => T.setC t d v fun t => some ⟨fno, lc, n, t, df, rc⟩
      | false => none
noncomputable def Fr.bump (fr : Fr) (i : Nat) : Fr :=
  match fr with
  | ⟨fno, lc, n, t, df, rc⟩ => natC (lc + i) fun lc => ⟨fno, lc, n, t, df, rc⟩
noncomputable def Fr.defer (fr : Fr) (d : AV × List AV) : Fr :=
  match fr with
  | ⟨fno, lc, n, t, df, rc⟩ => ⟨fno, lc, n, t, d :: df, rc⟩
noncomputable def Fr.recovers (fr : Fr) (v : AV) : Fr :=
  match fr with
  | ⟨fno, lc, n, t, df, _⟩ => ⟨fno, lc, n, t, df, .live v true⟩

/-! ### constants -/
noncomputable def ofS : Value → Option AV
  | .bool b => some (.bool b)
  | .int k n => some (.int k n)
  | .string s => some (.str s.data.toList)
  | .pointer none => some .nilp
  | .slice none 0 0 => some .nils
  | .map none => some .nilm
  | .nilFunc => some .nilf
  | .nilIface => some .nili
  | _ => none
noncomputable def ofSs : List Value → Option (List AV)
  | [] => some []
  | v :: vs => match ofS v, ofSs vs with
    | some a, some as => some (a :: as)
    | _, _ => none
noncomputable def ofA : Value → Option AV
  | .agg cs => match ofSs cs.toList with
    | some l => some (.agg l)
    | none => none
  | v => ofS v
noncomputable def ofAs : List Value → Option (List AV)
  | [] => some []
  | v :: vs => match ofA v, ofAs vs with
    | some a, some as => some (a :: as)
    | _, _ => none
noncomputable def ofV : Value → Option AV
  | .tuple vs => match ofAs vs.toList with
    | some l => some (.tup l)
    | none => none
  | v => ofA v

noncomputable def toS : AV → Option Value
  | .bool b => some (.bool b)
  | .int k n => some (.int k n)
  | .str s => some (.string ⟨s.toArray⟩)
  | .nilp => some (.pointer none)
  | .nils => some (.slice none 0 0)
  | .nilm => some (.map none)
  | .nilf => some .nilFunc
  | .nili => some .nilIface
  | _ => none

noncomputable def runP {α : Type} (P : Program) : Sem α → Option α
  | .pure a => some a
  | .program k => runP P (k P)
  | _ => none

noncomputable def Fr.ev (fr : Fr) : Operand → Option AV
  | .tmp t => match fr.t.get t with
    | some v => some v
    | none => some .undef
  | .const v => ofV v
  | .global g => some (.gptr g 0)
  | .func f => some (.fn (.func f) [] [])

noncomputable def evs (fr : Fr) : List Operand → Option (List AV)
  | [] => some []
  | x :: xs => match fr.ev x with
    | some v => match evs fr xs with
      | some vs => some (v :: vs)
      | none => none
    | none => none

/-! ### tables -/
noncomputable def isAggT (P : Program) (t : TypeId) : Option Bool :=
  match P.underlying t with
  | some (.struct _) => some true
  | some (.array _ _) => some true
  | some _ => some false
  | none => none
noncomputable def sizeT (P : Program) (t : TypeId) : Option Nat :=
  match P.info? t with
  | some i => some i.size
  | none => none
noncomputable def bytesT (P : Program) (t : TypeId) : Option Nat :=
  match P.info? t with
  | some i => some i.bytes
  | none => none
noncomputable def zeroT (P : Program) (t : TypeId) : Option AV :=
  match P.info? t with
  | some i => match i.zero with
    | some v => ofA v
    | none => none
  | none => none

noncomputable def AV.cells : AV → List AV
  | .agg cs => cs
  | v => [v]

noncomputable def partA (P : Program) (t : TypeId) (cs : List AV) (off : Nat) : Option AV :=
  match isAggT P t with
  | some true => match sizeT P t with
    | some n => some (.agg ((cs.drop off).take n))
    | none => none
  | some false => cs[off]?
  | none => none

/-! ### equality -/
noncomputable def eqFs (P : Program) (rec : TypeId → AV → AV → Option Bool) (xs ys : List AV) : List Field → Option Bool
  | [] => some true
  | f :: fs => match f.name == "_" with
    | true => none
    | false => match partA P f.type xs f.offset, partA P f.type ys f.offset with
      | some a, some b => match rec f.type a b with
        | some true => eqFs P rec xs ys fs
        | some false => some false
        | none => none
      | _, _ => none

noncomputable def eqIn (P : Program) : Nat → TypeId → AV → AV → Option Bool
  | 0, _, _, _ => none
  | d + 1, t, x, y =>
    match P.underlying t, x, y with
    | some .bool, .bool a, .bool b => some (a == b)
    | some (.int _), .int k a, .int k' b => match decide (k = k') with
      | true => some (a == b)
      | false => none
    | some .string, .str a, .str b => some (a == b)
    | some (.pointer _), .nilp, .nilp => some true
    | some (.pointer _), .nilp, .ptr _ _ => some false
    | some (.pointer _), .ptr _ _, .nilp => some false
    | some (.interface _), .nili, .nili => some true
    | some (.interface _), .nili, .iface _ _ => some false
    | some (.interface _), .iface _ _, .nili => some false
    | some (.struct fs), .agg xs, .agg ys => match P.stoodInHeld t with
      | true => none
      | false => eqFs P (eqIn P d) xs ys fs.toList
    | some (.slice _), .nils, .nils => some true
    | some (.slice _), .nils, .slice .. => some false
    | some (.slice _), .slice .., .nils => some false
    | some (.map _ _), .nilm, .nilm => some true
    | some (.map _ _), .nilm, .map _ => some false
    | some (.map _ _), .map _, .nilm => some false
    | some (.func ..), .nilf, .nilf => some true
    | some (.func ..), .nilf, .fn .. => some false
    | some (.func ..), .fn .., .nilf => some false
    | _, _, _ => none

noncomputable def eqGuardOk (P : Program) (t : TypeId) (x y : Operand) (a b : AV) : Bool :=
  match a, b with
  | .nili, .nili => match x, y with
    | .const _, _ => true
    | _, .const _ => true
    | _, _ => false
  | .agg _, .agg _ => !P.eqGuardType P.depth t
  | _, _ => true

noncomputable def strOp (op : BinOp) (a b : List UInt8) : Option AV :=
  match op with
  | .add => match Nat.blt (a.length + b.length) 4611686018427387904 with
    | true => some (.str (a ++ b))
    | false => none
  | .eql => some (.bool (a == b))
  | .neq => some (.bool (!(a == b)))
  | .lss => some (.bool (Op.bytesLess a b))
  | .leq => some (.bool (Op.bytesLess a b || a == b))
  | .gtr => some (.bool (!(Op.bytesLess a b || a == b)))
  | .geq => some (.bool (!Op.bytesLess a b))
  | _ => none

/-- a number that lies within 63 bits is what it wraps to -/
noncomputable def inI64 (n : Int) : Bool :=
  match n with
  | .ofNat m => Nat.blt m 9223372036854775808
  | .negSucc m => Nat.blt m 9223372036854775808
noncomputable def addI64 (n : Int) : Option AV :=
  match inI64 n with
  | true => some (.int .i64 n)
  | false => some (.int .i64 (IntKind.i64.wrap n))
noncomputable def intOp (P : Program) (op : BinOp) (t : TypeId) (k k' : IntKind) (a b : Int) : Option AV :=
  match op, k, k' with
  | .add, .i64, .i64 => addI64 (Int.add a b)
  | .sub, .i64, .i64 => addI64 (Int.sub a b)
  | _, _, _ => match runP P (binOp op t (.int k a) (.int k' b)) with
  | some v => ofS v
  | none => none

noncomputable def binA (P : Program) (op : BinOp) (t : TypeId) (x y : Operand) (a b : AV) : Option AV :=
  match a, b with
  | .int k m, .int k' n => intOp P op t k k' m n
  | .str s, .str u => strOp op s u
  | a, b =>
    match op with
    | .eql => match eqGuardOk P t x y a b with
      | true => match eqIn P 100 t a b with
        | some r => some (.bool r)
        | none => none
      | false => none
    | .neq => match eqGuardOk P t x y a b with
      | true => match eqIn P 100 t a b with
        | some r => some (.bool (!r))
        | none => none
      | false => none
    | _ => none

/-! ### the operations that only look at their operands -/
noncomputable def natOf (v : AV) : Option Nat :=
  match v with
  | .int _ (.ofNat n) => some n
  | _ => none

noncomputable def overA {α : Type} : List α → List α → List α
  | _ :: cs, v :: vs => v :: overA cs vs
  | cs, _ => cs
noncomputable def fillA {α : Type} : List α → Nat → List α → List α
  | cs, 0, v => overA cs v
  | c :: cs, n + 1, v => c :: fillA cs n v
  | [], _ + 1, _ => []

noncomputable def buildParts (P : Program) (fs : List Field) : List AV → List (Nat × AV) → Option (List AV)
  | cells, [] => some cells
  | cells, (i, v) :: rest => match fs[i]? with
    | some f => match sizeT P f.type with
      | some n => match Nat.beq v.cells.length n && Nat.ble (f.offset + n) cells.length with
        | true => listC (fillA cells f.offset v.cells) fun cells => buildParts P fs cells rest
        | false => none
      | none => none
    | none => none

noncomputable def buildArr (size : Nat) : List AV → List (Nat × AV) → Option (List AV)
  | cells, [] => some cells
  | cells, (i, v) :: rest => match Nat.beq v.cells.length size && Nat.ble (i * size + size) cells.length with
    | true => listC (fillA cells (i * size) v.cells) fun cells => buildArr size cells rest
    | false => none

noncomputable def evParts (fr : Fr) : List (Nat × Operand) → Option (List (Nat × AV))
  | [] => some []
  | (i, x) :: xs => match fr.ev x, evParts fr xs with
    | some v, some vs => some ((i, v) :: vs)
    | _, _ => none

noncomputable def boundA (v : Option AV) (dflt : Nat) : Option Nat :=
  match v with
  | none => some dflt
  | some v => natOf v

noncomputable def evO (fr : Fr) : Option Operand → Option (Option AV)
  | none => some none
  | some x => match fr.ev x with
    | some v => some (some v)
    | none => none

noncomputable def boundsA (len lim : Nat) (lo hi mx : Option AV) : Option (Nat × Nat × Option Nat) :=
  match mx with
  | none => match boundA lo 0, boundA hi len with
    | some l, some h => match Nat.ble l h && Nat.ble h lim with
      | true => some (l, h, none)
      | false => none
    | _, _ => none
  | some m => match hi, natOf m with
    | some hv, some m => match boundA lo 0, natOf hv with
      | some l, some h => match Nat.ble l h && Nat.ble h m && Nat.ble m lim with
        | true => some (l, h, some m)
        | false => none
      | _, _ => none
    | _, _ => none
noncomputable def sliceStr (s : List UInt8) : Option (Nat × Nat × Option Nat) → Option AV
  | some (l, h, none) => some (.str ((s.drop l).take (Nat.sub h l)))
  | _ => none
noncomputable def sliceNil : Option Nat → Option (Nat × Nat × Option Nat) → Option AV
  | some _, some _ => some .nils
  | _, _ => none
noncomputable def sliceShut (id off eo c : Nat) : Option Nat → Option (Nat × Nat × Option Nat) → Option AV
  | some es, some (l, h, none) => some (.slice id (Nat.add off (Nat.mul l es)) eo (Nat.sub h l) (some (Nat.sub c l)))
  | some es, some (l, h, some m) => some (.slice id (Nat.add off (Nat.mul l es)) eo (Nat.sub h l) (some (Nat.sub m l)))
  | _, _ => none
noncomputable def sliceOpen (id off eo : Nat) : Option Nat → Option (Nat × Nat × Option Nat) → Option AV
  | some es, some (l, h, none) => some (.slice id (Nat.add off (Nat.mul l es)) (Nat.add eo l) (Nat.sub h l) none)
  | some es, some (l, h, some m) => some (.slice id (Nat.add off (Nat.mul l es)) eo (Nat.sub h l) (some (Nat.sub m l)))
  | _, _ => none
noncomputable def sliceD (P : Program) (lo hi mx : Option AV) : Option TypeDesc → AV → Option AV
  | some .string, .str s => sliceStr s (boundsA s.length s.length lo hi mx)
  | some (.slice e), .nils => sliceNil (sizeT P e) (boundsA 0 0 lo hi mx)
  | some (.slice e), .slice id off eo len (some c) => sliceShut id off eo c (sizeT P e) (boundsA len c lo hi mx)
  | some (.slice e), .slice id off eo len none => sliceOpen id off eo (sizeT P e) (boundsA len len lo hi mx)
  | some (.array n e), .ptr id off => sliceShut id off 0 n (sizeT P e) (boundsA n n lo hi mx)
  | _, _ => none
noncomputable def sliceA (P : Program) (t : TypeId) (x : AV) (lo hi mx : Option AV) : Option AV := sliceD P lo hi mx (P.underlying t) x

noncomputable def lenA (P : Program) (t : TypeId) (v : AV) : Option AV :=
  match P.underlying t, v with
  | some .string, .str s => some (.int .i64 s.length)
  | some (.array n _), _ => some (.int .i64 n)
  | some (.slice _), .nils => some (.int .i64 0)
  | some (.slice _), .slice _ _ _ n _ => some (.int .i64 n)
  | some (.map _ _), .nilm => some (.int .i64 0)
  | some (.pointer a), _ => match P.underlying a with
    | some (.array n _) => some (.int .i64 n)
    | _ => none
  | _, _ => none

noncomputable def convA (P : Program) (src dst : TypeId) (v : AV) : Option AV :=
  match P.underlying src, P.underlying dst, v with
  | some _, some (.int k), .int _ n => some (.int k (k.wrap n))
  | some _, some .string, .int _ n => some (.str (Utf8.encode n).data.toList)
  | some _, some .string, .str s => some (.str s)
  | _, _, _ => none

inductive Cls where
  | pure | read | alloc | heavy

noncomputable def clsCall (c : Call) : Cls :=
  match c.callee with
  | .builtin .len => .read
  | _ => .heavy
noncomputable def clsOf (op : Op) : Cls :=
  match op with
  | .move _ => .pure
  | .assign _ => .pure
  | .pick .. => .pure
  | .build .. => .pure
  | .nilCheck _ => .pure
  | .binOp .. => .pure
  | .unOp .. => .pure
  | .makeInterface .. => .pure
  | .makeFunc .. => .pure
  | .slice .. => .pure
  | .fieldAddr .. => .pure
  | .field .. => .pure
  | .indexAddr .. => .pure
  | .index .. => .pure
  | .typeAssert .. => .pure
  | .extract .. => .pure
  | .convert .. => .read
  | .load .. => .read
  | .lookup .. => .read
  | .entry _ => .read
  | .alloc _ => .alloc
  | .box .. => .alloc
  | .buildSlice .. => .alloc
  | .makeMap .. => .alloc
  | .makeSlice .. => .alloc
  | .range .. => .alloc
  | .call c => clsCall c
  | _ => .heavy

noncomputable def pPick (fr : Fr) (a b : Operand) : Option AV → Option AV
  | some (.bool true) => fr.ev a
  | some (.bool false) => fr.ev b
  | _ => none
noncomputable def someAgg : Option (List AV) → Option AV
  | some cs => some (.agg cs)
  | none => none
noncomputable def fieldsOk (P : Program) : List Field → Bool
  | [] => true
  | f :: fs => match sizeT P f.type with
    | some _ => fieldsOk P fs
    | none => false
noncomputable def pBuild2 (P : Program) (z : AV) (ps : List (Nat × AV)) : Option TypeDesc → Option AV
  | some (.struct fs) => match fieldsOk P fs.toList with
    | true => someAgg (buildParts P fs.toList z.cells ps)
    | false => none
  | some (.array _ e) => match sizeT P e with
    | some n => someAgg (buildArr n z.cells ps)
    | none => none
  | _ => none
noncomputable def pBuild (P : Program) (fr : Fr) (t : TypeId) (parts : Array (Nat × Operand)) : Option AV :=
  match zeroT P t, evParts fr parts.toList with
  | some z, some ps => pBuild2 P z ps (P.underlying t)
  | _, _ => none
noncomputable def pNil : Option AV → Option AV
  | some (.ptr i o) => some (.ptr i o)
  | some (.gptr i o) => some (.gptr i o)
  | some (.fn (.func f) a b) => some (.fn (.func f) a b)
  | some (.iface t v) => some (.iface t v)
  | _ => none
noncomputable def pBin (P : Program) (op : BinOp) (t : TypeId) (x y : Operand) : Option AV → Option AV → Option AV
  | some a, some b => binA P op t x y a b
  | _, _ => none
noncomputable def pUn2 (P : Program) (op : UnOp) : Option Value → Option AV
  | some v => match runP P (Op.unary op v) with
    | some r => ofS r
    | none => none
  | none => none
noncomputable def pUn (P : Program) (op : UnOp) : Option AV → Option AV
  | some a => pUn2 P op (toS a)
  | none => none
noncomputable def pMkI (t : TypeId) (v : Option AV) : Option TypeDesc → Option AV
  | some (.interface _) => none
  | some _ => match v with
    | some v => some (.iface t v)
    | none => none
  | none => none
noncomputable def pMkF (f : Fn) : Option (List AV) → Option (List AV) → Option AV
  | some a, some b => some (.fn f a b)
  | _, _ => none
noncomputable def pSlice (P : Program) (t : TypeId) : Option AV → Option (Option AV) → Option (Option AV) → Option (Option AV) → Option AV
  | some v, some l, some h, some m => sliceA P t v l h m
  | _, _, _, _ => none
noncomputable def pFA2 (off : Nat) : Option AV → Option AV
  | some (.ptr i o) => some (.ptr i (Nat.add o off))
  | some (.gptr i o) => some (.gptr i (Nat.add o off))
  | _ => none
noncomputable def pFA1 (P : Program) (v : Option AV) : Option Field → Option AV
  | some fd => match sizeT P fd.type with
    | some (_ + 1) => pFA2 fd.offset v
    | _ => none
  | none => none
noncomputable def pFA (P : Program) (v : Option AV) (f : Nat) : Option TypeDesc → Option AV
  | some (.struct fs) => pFA1 P v (fs.toList[f]?)
  | _ => none
noncomputable def pF1 (P : Program) (v : Option AV) : Option Field → Option AV
  | some fd => match v with
    | some (.agg cs) => partA P fd.type cs fd.offset
    | _ => none
  | none => none
noncomputable def pF (P : Program) (v : Option AV) (f : Nat) : Option TypeDesc → Option AV
  | some (.struct fs) => pF1 P v (fs.toList[f]?)
  | _ => none
noncomputable def offA (P : Program) (e : TypeId) (i off : Nat) : Option Nat :=
  match sizeT P e with
  | some es => some (Nat.add off (Nat.mul i es))
  | none => none
noncomputable def pIA3 (id : Nat) : Option Nat → Option AV
  | some o => some (.ptr id o)
  | none => none
noncomputable def pIA3g (id : Nat) : Option Nat → Option AV
  | some o => some (.gptr id o)
  | none => none
noncomputable def pIA2 (P : Program) (i : Nat) : Option TypeDesc → AV → Option AV
  | some (.slice e), .slice id off _ len _ => match Nat.blt i len with
    | true => pIA3 id (offA P e i off)
    | false => none
  | some (.array n e), .ptr id off => match Nat.blt i n with
    | true => pIA3 id (offA P e i off)
    | false => none
  | some (.array n e), .gptr id off => match Nat.blt i n with
    | true => pIA3g id (offA P e i off)
    | false => none
  | _, _ => none
noncomputable def pIA1 (P : Program) (t : TypeId) (v : AV) : Option Nat → Option AV
  | some i => pIA2 P i (P.underlying t) v
  | none => none
noncomputable def pIA (P : Program) (t : TypeId) : Option AV → Option AV → Option AV
  | some v, some i => pIA1 P t v (natOf i)
  | _, _ => none
noncomputable def pIx2 (P : Program) (i : Nat) : Option TypeDesc → AV → Option AV
  | some (.array n e), .agg cs => match Nat.blt i n, sizeT P e with
    | true, some es => partA P e cs (Nat.mul i es)
    | _, _ => none
  | some .string, .str s => match s[i]? with
    | some b => some (.int .u8 b.toNat)
    | none => none
  | _, _ => none
noncomputable def pIx1 (P : Program) (t : TypeId) (v : AV) : Option Nat → Option AV
  | some i => pIx2 P i (P.underlying t) v
  | none => none
noncomputable def pIx (P : Program) (t : TypeId) : Option AV → Option AV → Option AV
  | some v, some i => pIx1 P t v (natOf i)
  | _, _ => none
noncomputable def pTA1 (asserted : TypeId) (ok : Bool) (z : AV) : Option AV → Option AV
  | some (.iface t v) => match Nat.beq t asserted, ok with
    | true, true => some (.tup [v, .bool true])
    | true, false => some v
    | false, true => some (.tup [z, .bool false])
    | false, false => none
  | some .nili => match ok with
    | true => some (.tup [z, .bool false])
    | false => none
  | _ => none
noncomputable def pTA (P : Program) (asserted : TypeId) (ok : Bool) (v : Option AV) : Option TypeDesc → Option AV
  | some (.interface _) => none
  | some _ => match zeroT P asserted with
    | some z => pTA1 asserted ok z v
    | none => none
  | none => none
noncomputable def pEx (i : Nat) : Option AV → Option AV
  | some (.tup vs) => vs[i]?
  | _ => none

noncomputable def pureOp (P : Program) (fr : Fr) (op : Op) : Option AV :=
  match op with
  | .move x => fr.ev x
  | .assign x => fr.ev x
  | .pick c a b => pPick fr a b (fr.ev c)
  | .build t parts => pBuild P fr t parts
  | .nilCheck x => pNil (fr.ev x)
  | .binOp op t x y _ => pBin P op t x y (fr.ev x) (fr.ev y)
  | .unOp op _ x => pUn P op (fr.ev x)
  | .makeInterface t x => pMkI t (fr.ev x) (P.underlying t)
  | .makeFunc f first captured => pMkF f (evs fr first.toList) (evs fr captured.toList)
  | .slice t x lo hi mx => pSlice P t (fr.ev x) (evO fr lo) (evO fr hi) (evO fr mx)
  | .fieldAddr s x f => pFA P (fr.ev x) f (P.underlying s)
  | .field s x f => pF P (fr.ev x) f (P.underlying s)
  | .indexAddr t x ix => pIA P t (fr.ev x) (fr.ev ix)
  | .index t x ix => pIx P t (fr.ev x) (fr.ev ix)
  | .typeAssert x _ asserted ok => pTA P asserted ok (fr.ev x) (P.underlying asserted)
  | .extract t i => pEx i (fr.ev t)
  | _ => none

/-! ### reads -/
noncomputable def rowGet (cs : T AV) (off : Nat) : Nat → Option (List AV)
  | 0 => some []
  | n + 1 => match cs.get off with
    | some v => match rowGet cs (off + 1) n with
      | some vs => some (v :: vs)
      | none => none
    | none => none

noncomputable def readCells (h : Heap) (id off n : Nat) : Option (List AV) :=
  match hget h id with
  | some (.row cs m _) => match Nat.ble (off + n) m with
    | true => rowGet cs off n
    | false => none
  | _ => none

/-- The package-level variables that may be read: their cells. -/
abbrev Glob := List (Nat × List AV)
noncomputable def gget (G : Glob) (g : Nat) : Option (List AV) :=
  match G with
  | [] => none
  | (i, l) :: r => match Nat.beq i g with
    | true => some l
    | false => gget r g

noncomputable def readAt (G : Glob) (h : Heap) (v : AV) (n : Nat) : Option (List AV) :=
  match v with
  | .ptr id off => readCells h id off n
  | .gptr g off => match gget G g with
    | some l => match Nat.ble (off + n) l.length with
      | true => some ((l.drop off).take n)
      | false => none
    | none => none
  | _ => none

noncomputable def loadA (P : Program) (G : Glob) (h : Heap) (t : TypeId) (v : AV) : Option AV :=
  match isAggT P t with
  | some true => match sizeT P t with
    | some n => match readAt G h v n with
      | some cs => some (.agg cs)
      | none => none
    | none => none
  | some false => match readAt G h v 1 with
    | some [c] => some c
    | _ => none
  | none => none

noncomputable def plainV (P : Program) (t : TypeId) (v : Option AV) : Bool :=
  match P.underlying t, v with
  | some .bool, some (.bool _) => true
  | some (.int _), some (.int _ _) => true
  | some .string, some (.str _) => true
  | _, _ => false
noncomputable def plainFs (P : Program) (cs : List AV) : List Field → Bool
  | [] => true
  | f :: fs => match plainV P f.type (partA P f.type cs f.offset) with
    | true => plainFs P cs fs
    | false => false
noncomputable def keyD (P : Program) (t : TypeId) (k : AV) : Option TypeDesc → Bool
  | some (.struct fs) => match k with
    | .agg cs => plainFs P cs fs.toList
    | _ => false
  | _ => plainV P t (some k)
/-- May the value be a key of the type: of a plain kind, or a struct of such? -/
noncomputable def keyOk (P : Program) (t : TypeId) (k : AV) : Bool := keyD P t k (P.underlying t)

abbrev MEs := List (AV × AV × Nat)
/-- the place of a key, and what stands there -/
noncomputable def findK (P : Program) (t : TypeId) (k : AV) : MEs → Nat → Option (Option (Nat × AV × AV × Nat))
  | [], _ => some none
  | (k', v, b) :: es, i => match eqIn P 100 t k k' with
    | some true => some (some (i, k', v, b))
    | some false => findK P t k es (Nat.succ i)
    | none => none

noncomputable def mapOf (h : Heap) : AV → Option (List (AV × AV × Nat))
  | .nilm => some []
  | .map id => match hget h id with
    | some (.map es _) => some es
    | _ => none
  | _ => none

noncomputable def okV (ok : Bool) (v : AV) (b : Bool) : AV :=
  match ok with
  | true => .tup [v, .bool b]
  | false => v
noncomputable def rLk2 (ok : Bool) (z : AV) : Option (Option (Nat × AV × AV × Nat)) → Option AV
  | some (some (_, _, v, _)) => some (okV ok v true)
  | some none => some (okV ok z false)
  | none => none
noncomputable def rLk1 (P : Program) (kt et : TypeId) (ok : Bool) (k : AV) : Option (List (AV × AV × Nat)) → Option AV
  | some es => match keyOk P kt k, zeroT P et with
    | true, some z => rLk2 ok z (findK P kt k es 0)
    | _, _ => none
  | none => none
noncomputable def rLk (P : Program) (h : Heap) (ok : Bool) : Option TypeDesc → Option AV → Option AV → Option AV
  | some (.map kt et), some m, some k => rLk1 P kt et ok k (mapOf h m)
  | _, _, _ => none
noncomputable def rEn3 : Option (AV × AV × Nat) → Option AV
  | some e => some (.tup [e.1, e.2.1])
  | none => none
noncomputable def rEn2 (seen : List Nat) (stepped : Nat) : Option AB → Option AV
  | some (.map es clock) => match Nat.beq clock stepped, seen.getLast? with
    | true, some stamp => rEn3 (es.find? (fun e => Nat.beq e.2.2 stamp))
    | _, _ => none
  | _ => none
noncomputable def rEn1 (h : Heap) : Option AB → Option AV
  | some (.mit (some m) _ seen stepped) => rEn2 seen stepped (hget h m)
  | _ => none
noncomputable def rEn (h : Heap) : Option AV → Option AV
  | some (.ptr id 0) => rEn1 h (hget h id)
  | _ => none
noncomputable def bytesOfA : List AV → Option (List UInt8)
  | [] => some []
  | .int .u8 (.ofNat n) :: r => match Nat.blt n 256, bytesOfA r with
    | true, some l => some (UInt8.ofNat n :: l)
    | _, _ => none
  | _ :: _ => none
noncomputable def someStr : Option (List UInt8) → Option AV
  | some bs => some (.str bs)
  | none => none
noncomputable def rCvB : Option (List AV) → Option AV
  | some cs => someStr (bytesOfA cs)
  | none => none
noncomputable def isBytes (P : Program) (src dst : TypeId) : Bool :=
  match P.underlying src, P.underlying dst with
  | some (.slice e), some .string => match P.underlying e with
    | some (.int .u8) => true
    | _ => false
  | _, _ => false
noncomputable def rCv (P : Program) (h : Heap) (src dst : TypeId) : Option AV → Option AV
  | some (.slice id off _ len _) => match isBytes P src dst with
    | true => rCvB (readCells h id off len)
    | false => none
  | some .nils => match isBytes P src dst with
    | true => some (.str [])
    | false => none
  | some v => convA P src dst v
  | none => none
noncomputable def rLenM : Option TypeDesc → Option AB → Option AV
  | some (.map _ _), some (.map es _) => some (.int .i64 es.length)
  | _, _ => none
noncomputable def rLen1 (P : Program) (h : Heap) (t : TypeId) : Option AV → Option AV
  | some (.map id) => rLenM (P.underlying t) (hget h id)
  | some v => lenA P t v
  | none => none
noncomputable def rLen (P : Program) (fr : Fr) (h : Heap) : Option TypeId → Option Operand → Option AV
  | some t, some x => rLen1 P h t (fr.ev x)
  | _, _ => none
noncomputable def rLd (P : Program) (G : Glob) (h : Heap) (t : TypeId) : Option AV → Option AV
  | some v => loadA P G h t v
  | none => none
noncomputable def rCall (P : Program) (fr : Fr) (h : Heap) (c : Call) : Option AV :=
  match c.callee with
  | .builtin .len => rLen P fr h (c.argTypes.toList[0]?) (c.args.toList[0]?)
  | _ => none

noncomputable def readOp (P : Program) (G : Glob) (fr : Fr) (h : Heap) (op : Op) : Option AV :=
  match op with
  | .load t a => rLd P G h t (fr.ev a)
  | .lookup t x k ok => rLk P h ok (P.underlying t) (fr.ev x) (fr.ev k)
  | .entry it => rEn h (fr.ev it)
  | .convert src dst x => rCv P h src dst (fr.ev x)
  | .call c => rCall P fr h c
  | _ => none

/-! ### new blocks -/
noncomputable def rowOf (l : List AV) (es : Nat) : AB := T.setListC .e 0 l fun t => natC l.length fun n => .row t n es

noncomputable def repl {α : Type} (l : List α) : Nat → List α
  | 0 => []
  | n + 1 => l ++ repl l n

noncomputable def nVar (key : Nat) : Option AV → Option (AV × AB)
  | some z => some (.ptr key 0, rowOf z.cells 0)
  | none => none
noncomputable def nBS3 (key len n : Nat) : Option (List AV) → Option (AV × AB)
  | some cs => some (.slice key 0 0 len (some len), rowOf cs n)
  | none => none
noncomputable def nBS2 (key len : Nat) (ps : List (Nat × AV)) : Option Nat → Option AV → Option (AV × AB)
  | some n, some z => match Nat.ble (len * n) 16777216 && Nat.blt 0 n && Nat.beq z.cells.length n with
    | true => nBS3 key len n (buildArr n (repl z.cells len) ps)
    | false => none
  | _, _ => none
noncomputable def nBS (P : Program) (key len : Nat) : Option TypeDesc → Option (List (Nat × AV)) → Option (AV × AB)
  | some (.slice e), some ps => nBS2 key len ps (sizeT P e) (zeroT P e)
  | _, _ => none
noncomputable def nMS2 (key l c : Nat) : Option Nat → Option Nat → Option AV → Option (AV × AB)
  | some n, some by', some z => match Nat.ble l c && Nat.ble (by' * c) 1073741824 && Nat.blt 0 n && Nat.beq z.cells.length n && Nat.ble c 1073741824 with
    | true => some (.slice key 0 0 l (some c), rowOf (repl z.cells c) n)
    | false => none
  | _, _, _ => none
noncomputable def nMS1 (P : Program) (key : Nat) (e : TypeId) : Option Nat → Option Nat → Option (AV × AB)
  | some l, some c => nMS2 key l c (sizeT P e) (bytesT P e) (zeroT P e)
  | _, _ => none
noncomputable def nMS (P : Program) (key : Nat) : Option TypeDesc → Option AV → Option AV → Option (AV × AB)
  | some (.slice e), some l, some c => nMS1 P key e (natOf l) (natOf c)
  | _, _, _ => none

noncomputable def allocOp (P : Program) (fr : Fr) (key : Nat) (op : Op) : Option (AV × AB) :=
  match op with
  | .alloc t => nVar key (zeroT P t)
  | .box _ x => nVar key (fr.ev x)
  | .buildSlice t len parts => nBS P key len (P.underlying t) (evParts fr parts.toList)
  | .makeMap _ none => some (.map key, .map [] 0)
  | .makeSlice t l c => nMS P key (P.underlying t) (fr.ev l) (fr.ev c)
  | _ => none

/-! ### the operations that act -/
inductive Out where
  | val (v : AV) (s : St)
  | pan (v : AV) (s : St)

abbrev Outs := Option (List Out)

noncomputable def isCell : AV → Bool
  | .agg _ => false
  | .tup _ => false
  | _ => true
noncomputable def allCell : List AV → Bool
  | [] => true
  | v :: vs => match isCell v with
    | true => allCell vs
    | false => false
noncomputable def writeCells (h : Heap) (id off : Nat) (vs : List AV) : Option Heap :=
  match hget h id with
  | some (.row cs m es) => match Nat.ble (off + vs.length) m && allCell vs with
    | true => T.setListC cs off vs fun cs => hsetC h id (.row cs m es) fun h => some h
    | false => none
  | _ => none

noncomputable def srcCells (h : Heap) (es : Nat) : AV → Option (Nat × List AV)
  | .nils => some (0, [])
  | .slice id off _ len _ => match readCells h id off (len * es) with
    | some cs => some (len, cs)
    | none => none
  | .str s => match Nat.beq es 1 with
    | true => some (s.length, s.map fun b => .int .u8 b.toNat)
    | false => none
  | _ => none

/-- is the zero value of the type of so many cells, more than none? and more than no bytes? -/
noncomputable def zeroOk (P : Program) (e : TypeId) (es by' : Nat) : Bool :=
  match zeroT P e with
  | some z => Nat.beq z.cells.length es && Nat.blt 0 es && Nat.blt 0 by'
  | none => false

noncomputable def appendA (P : Program) (t : TypeId) (t2 : TypeId) (key : Nat) (s : St) (a b : AV) : Option (AV × St) :=
  match P.underlying t with
  | some (.slice e) => match sizeT P e, bytesT P e, P.underlying t2 with
    | _, _, some (.int _) => none
    | some es, some by', some _ => match zeroOk P e es by', srcCells s.h es b with
      | true, some (n, news) =>
        match a with
        | .nils => match n with
          | 0 => some (.nils, s)
          | _ => match Nat.ble ((2 * n + 1024) * by') 281474976710656 with
            | true => some (.slice key 0 0 n none, (s.upd key (rowOf news es)))
            | false => none
        | .slice id off eo len cap =>
          match Nat.ble ((2 * (len + n) + 1024) * by') 281474976710656 with
          | false => none
          | true =>
            match n with
            | 0 => some (.slice id off eo len cap, s)
            | _ =>
              match hget s.h id with
              | some (.row _ m es') =>
                match Nat.ble (off + (len + n) * es) m, cap with
                | true, none => match Nat.beq es es' && Nat.beq off (eo * es) with
                  | true => match writeCells s.h id (off + len * es) news with
                    | some h' => some (.slice id off eo (len + n) none, (s.withH h'))
                    | none => none
                  | false => none
                | fits, some c => match Nat.ble (len + n) c with
                  | true => match fits with
                    | true => match writeCells s.h id (off + len * es) news with
                      | some h' => some (.slice id off eo (len + n) (some c), (s.withH h'))
                      | none => none
                    | false => none
                  | false => match readCells s.h id off (len * es) with
                    | some old => some (.slice key 0 0 (len + n) none, (s.upd key (rowOf (old ++ news) es)))
                    | none => none
                | false, none => match Nat.beq es es' && Nat.beq off (eo * es) && allCell news with
                  | true => match readCells s.h id off (len * es) with
                    | some old => some (.slice key 0 0 (len + n) none, ((s.upd id .dead).upd key (rowOf (old ++ news) es)))
                    | none => none
                  | false => none
              | _ => none
        | _ => none
      | _, _ => none
    | _, _, _ => none
  | _ => none

mutual
noncomputable def avEq : AV → AV → Bool
  | .bool a, .bool b => a == b
  | .int k a, .int k' b => decide (k = k') && decide (a = b)
  | .str a, .str b => decide (a = b)
  | .nilp, .nilp => true
  | .ptr i o, .ptr j p => Nat.beq i j && Nat.beq o p
  | .gptr i o, .gptr j p => Nat.beq i j && Nat.beq o p
  | .nils, .nils => true
  | .slice i o e l c, .slice j p f m d => Nat.beq i j && Nat.beq o p && Nat.beq e f && Nat.beq l m && decide (c = d)
  | .nilm, .nilm => true
  | .map i, .map j => Nat.beq i j
  | .fn f a b, .fn g c d => decide (f = g) && avsEq a c && avsEq b d
  | .nilf, .nilf => true
  | .iface t v, .iface u w => Nat.beq t u && avEq v w
  | .nili, .nili => true
  | .agg a, .agg b => avsEq a b
  | .tup a, .tup b => avsEq a b
  | _, _ => false
noncomputable def avsEq : List AV → List AV → Bool
  | [], [] => true
  | a :: l, b :: r => avEq a b && avsEq l r
  | _, _ => false
end
noncomputable def isKeyS : AV → Bool
  | .bool _ => true
  | .int _ _ => true
  | .str _ => true
  | _ => false
noncomputable def allKeyS : List AV → Bool
  | [] => true
  | v :: vs => match isKeyS v with
    | true => allKeyS vs
    | false => false
/-- the value of a plain kind, or an aggregate of such -/
noncomputable def isKey : AV → Bool
  | .agg l => allKeyS l
  | v => isKeyS v
noncomputable def setAt (es : MEs) : Nat → (AV × AV × Nat) → MEs
  | 0, x => match es with
    | [] => []
    | _ :: r => x :: r
  | n + 1, x => match es with
    | [] => []
    | e :: r => e :: setAt r n x
noncomputable def dropAt (es : MEs) : Nat → MEs
  | 0 => match es with
    | [] => []
    | _ :: r => r
  | n + 1 => match es with
    | [] => []
    | e :: r => e :: dropAt r n
noncomputable def setK2 (k v : AV) (es : MEs) (clock : Nat) : Option (Option (Nat × AV × AV × Nat)) → Option (MEs × Nat)
  | some none => listC (es ++ [(k, v, clock)]) fun es => natC (Nat.succ clock) fun c => some (es, c)
  | some (some (i, k', _, b)) => match avEq k k', isKey k with
    | true, true => listC (setAt es i (k, v, b)) fun es => some (es, clock)
    | _, _ => none
  | none => none
noncomputable def setK (P : Program) (t : TypeId) (k v : AV) (es : MEs) (clock : Nat) : Option (MEs × Nat) :=
  match keyOk P t k with
  | true => setK2 k v es clock (findK P t k es 0)
  | false => none
noncomputable def delK2 (es : MEs) : Option (Option (Nat × AV × AV × Nat)) → Option MEs
  | some none => some es
  | some (some (i, _, _, _)) => listC (dropAt es i) fun es => some es
  | none => none
noncomputable def delK (P : Program) (t : TypeId) (k : AV) (es : MEs) : Option MEs :=
  match keyOk P t k with
  | true => delK2 es (findK P t k es 0)
  | false => none

noncomputable def setStamp (v : AV) (stamp : Nat) : List (AV × AV × Nat) → Option (List (AV × AV × Nat))
  | [] => none
  | (k', v', b) :: es => match Nat.beq b stamp with
    | true => some ((k', v, b) :: es)
    | false => match setStamp v stamp es with
      | some es' => some ((k', v', b) :: es')
      | none => none

noncomputable def oneOut (v : AV) : Option St → Outs
  | some s => some [.val v s]
  | none => none
noncomputable def upH (s : St) : Option Heap → Option St
  | some h => some (s.withH h)
  | none => none
noncomputable def aSt (s : St) : Option AV → Option AV → Option Nat → Outs
  | some (.ptr id off), some v, some n => match Nat.beq v.cells.length n with
    | true => oneOut .undef (upH s (writeCells s.h id off v.cells))
    | false => none
  | _, _, _ => none
noncomputable def aMU3 (s : St) (id : Nat) : Option (List (AV × AV × Nat) × Nat) → Outs
  | some (es', c) => some [.val .undef (s.upd id (.map es' c))]
  | none => none
noncomputable def aMU2 (P : Program) (t : TypeId) (s : St) (id : Nat) (k v : AV) : Option AB → Outs
  | some (.map es clock) => aMU3 s id (setK P t k v es clock)
  | _ => none
noncomputable def aMU (P : Program) (s : St) : Option TypeDesc → Option AV → Option AV → Option AV → Outs
  | some (.map kt _), some (.map id), some k, some v => aMU2 P kt s id k v (hget s.h id)
  | _, _, _, _ => none
noncomputable def aME4 (s : St) (id clock : Nat) (z : AV) : Option (MEs × Nat) → Outs
  | some (es', c) => some [.val (.tup [z, .int .i64 clock]) (s.upd id (.map es' c))]
  | none => none
noncomputable def aME3 (P : Program) (t : TypeId) (s : St) (id : Nat) (k z : AV) (es : MEs) (clock : Nat) : Option (Option (Nat × AV × AV × Nat)) → Outs
  | some (some (_, k', v, b)) => match avEq k k', isKey k with
    | true, true => some [.val (.tup [v, .int .i64 b]) s]
    | _, _ => none
  | some none => aME4 s id clock z (setK P t k z es clock)
  | none => none
noncomputable def aME2 (P : Program) (t : TypeId) (s : St) (id : Nat) (k : AV) : Bool → Option AB → Option AV → Outs
  | true, some (.map es clock), some z => aME3 P t s id k z es clock (findK P t k es 0)
  | _, _, _ => none
noncomputable def aME (P : Program) (s : St) : Option TypeDesc → Option AV → Option AV → Outs
  | some (.map kt et), some (.map id), some k => aME2 P kt s id k (keyOk P kt k) (hget s.h id) (zeroT P et)
  | _, _, _ => none
noncomputable def aES3 (s : St) (id clock : Nat) : Option (List (AV × AV × Nat)) → Outs
  | some es' => some [.val .undef (s.upd id (.map es' clock))]
  | none => none
noncomputable def aES2 (s : St) (id : Nat) (v : AV) : Option Nat → Option AB → Outs
  | some stamp, some (.map es clock) => aES3 s id clock (setStamp v stamp es)
  | _, _ => none
noncomputable def aES (s : St) : Option AV → Option AV → Option AV → Outs
  | some (.map id), some st, some v => aES2 s id v (natOf st) (hget s.h id)
  | _, _, _ => none
noncomputable def nextOuts (s : St) (id m since : Nat) (seen : List Nat) (clock : Nat) : List (AV × AV × Nat) → List Out
  | [] => []
  | e :: r => .val (.tup [.bool true, e.1, e.2.1]) (s.upd id (.mit (some m) since (seen ++ [e.2.2]) clock)) :: nextOuts s id m since seen clock r
noncomputable def aNx4 (s : St) (id m since : Nat) (seen : List Nat) (clock : Nat) : List (AV × AV × Nat) → Outs
  | [] => some [.val (.tup [.bool false]) s]
  | l => some (nextOuts s id m since seen clock l)
noncomputable def aNx3 (s : St) (id m since : Nat) (seen : List Nat) (clock : Nat) (left : List (AV × AV × Nat)) : Outs :=
  match left.any (fun e => !Nat.blt e.2.2 since) with
  | true => none
  | false => aNx4 s id m since seen clock left
noncomputable def aNx2 (s : St) (id m since : Nat) (seen : List Nat) (last : Nat) : Option AB → Outs
  | some (.map es clock) => match !seen.isEmpty && !es.isEmpty && es.all (fun e => Nat.ble last e.2.2) with
    | true => none
    | false => aNx3 s id m since seen clock (es.filter fun e => !seen.contains e.2.2)
  | _ => none
noncomputable def aNx1 (s : St) (id : Nat) : Option AB → Outs
  | some (.mit none _ _ _) => some [.val (.tup [.bool false]) s]
  | some (.mit (some m) since seen last) => aNx2 s id m since seen last (hget s.h m)
  | _ => none
noncomputable def aNx (s : St) : Option AV → Outs
  | some (.ptr id 0) => aNx1 s id (hget s.h id)
  | _ => none
noncomputable def aPanic (s : St) : Option AV → Outs
  | some (.iface t v) => some [.pan (.iface t v) s]
  | _ => none
noncomputable def outOf : Option (AV × St) → Outs
  | some (v, s) => some [.val v s]
  | none => none
noncomputable def aApp2 (P : Program) (key : Nat) (s : St) (t t2 : TypeId) : Option AV → Option AV → Outs
  | some a, some b => outOf (appendA P t t2 key s a b)
  | _, _ => none
noncomputable def aApp (P : Program) (fr : Fr) (key : Nat) (s : St) : List TypeId → List Operand → Outs
  | [t, t2], [x, y] => aApp2 P key s t t2 (fr.ev x) (fr.ev y)
  | _, _ => none
noncomputable def aCp3 (s : St) (id off len es : Nat) : Option (Nat × List AV) → Outs
  | some (n, cs) => oneOut (.int .i64 (Nat.min n len)) (upH s (writeCells s.h id off (cs.take (Nat.min n len * es))))
  | none => none
noncomputable def aCp0 (s : St) : Option (Nat × List AV) → Outs
  | some _ => some [.val (.int .i64 0) s]
  | none => none
noncomputable def aCp2 (P : Program) (s : St) : Option TypeDesc → Option AV → Option AV → Outs
  | some (.slice e), some (.slice id off _ len _), some b => match sizeT P e with
    | some es => aCp3 s id off len es (srcCells s.h es b)
    | none => none
  | some (.slice e), some .nils, some b => match sizeT P e with
    | some es => aCp0 s (srcCells s.h es b)
    | none => none
  | _, _, _ => none
noncomputable def aCp (P : Program) (fr : Fr) (s : St) : List TypeId → List Operand → Outs
  | t :: _, [x, y] => aCp2 P s (P.underlying t) (fr.ev x) (fr.ev y)
  | _, _ => none
noncomputable def aDl2 (P : Program) (t : TypeId) (s : St) (id : Nat) (k : AV) : Option AB → Outs
  | some (.map es clock) => aES3 s id clock (delK P t k es)
  | _ => none
noncomputable def aDl1 (P : Program) (s : St) : Option TypeDesc → Option AV → Option AV → Outs
  | some (.map kt _), some (.map id), some k => aDl2 P kt s id k (hget s.h id)
  | _, _, _ => none
noncomputable def aDl (P : Program) (fr : Fr) (s : St) : List TypeId → List Operand → Outs
  | t :: _, [x, y] => aDl1 P s (P.underlying t) (fr.ev x) (fr.ev y)
  | _, _ => none
noncomputable def aCl3 (s : St) (id off len : Nat) : Option AV → Option Nat → Outs
  | some z, some n => match Nat.beq z.cells.length n with
    | true => oneOut .undef (upH s (writeCells s.h id off (repl z.cells len)))
    | false => none
  | _, _ => none
noncomputable def aCl2 (P : Program) (s : St) : Option TypeDesc → Option AV → Outs
  | some (.slice e), some (.slice id off _ len _) => aCl3 s id off len (zeroT P e) (sizeT P e)
  | _, _ => none
noncomputable def aCl (P : Program) (fr : Fr) (s : St) : List TypeId → List Operand → Outs
  | t :: _, [x] => aCl2 P s (P.underlying t) (fr.ev x)
  | _, _ => none
noncomputable def ltInt (a b : Int) : Bool := decide (a < b)
noncomputable def aMx (s : St) : Option (List AV) → Outs
  | some [.int k a, .int k' b] => match decide (k = k') with
    | true => some [.val (.int k (match ltInt a b with | true => b | false => a)) s]
    | false => none
  | _ => none
noncomputable def aMn (s : St) : Option (List AV) → Outs
  | some [.int k a, .int k' b] => match decide (k = k') with
    | true => some [.val (.int k (match ltInt b a with | true => b | false => a)) s]
    | false => none
  | _ => none
noncomputable def aBuiltin (P : Program) (fr : Fr) (key : Nat) (s : St) (c : Call) (b : Builtin) : Outs :=
  match b with
  | .append => aApp P fr key s c.argTypes.toList c.args.toList
  | .copy => aCp P fr s c.argTypes.toList c.args.toList
  | .delete => aDl P fr s c.argTypes.toList c.args.toList
  | .clear => aCl P fr s c.argTypes.toList c.args.toList
  | .max => aMx s (evs fr c.args.toList)
  | .min => aMn s (evs fr c.args.toList)
  | _ => none

/-- An operation that acts, but is no call. -/
noncomputable def actOp (P : Program) (fr : Fr) (s : St) (op : Op) : Outs :=
  match op with
  | .store t a x => aSt s (fr.ev a) (fr.ev x) (sizeT P t)
  | .mapUpdate t m k v => aMU P s (P.underlying t) (fr.ev m) (fr.ev k) (fr.ev v)
  | .mapEntry t m k => aME P s (P.underlying t) (fr.ev m) (fr.ev k)
  | .entryStore _ m st v => aES s (fr.ev m) (fr.ev st) (fr.ev v)
  | .next it false => aNx s (fr.ev it)
  | .panic x => aPanic s (fr.ev x)
  | _ => none

/-- 'range' over a map: an iterator. -/
noncomputable def rangeOp (P : Program) (fr : Fr) (h : Heap) (key : Nat) : Op → Option (AV × AB)
  | .range t x => match P.underlying t, fr.ev x with
    | some (.map _ _), some .nilm => some (.ptr key 0, .mit none 0 [] 0)
    | some (.map _ _), some (.map id) => match hget h id with
      | some (.map _ clock) => some (.ptr key 0, .mit (some id) clock [] clock)
      | _ => none
    | _, _ => none
  | _ => none

/-! ### whom a call calls -/
/-- the function and all its arguments -/
noncomputable def methodA (P : Program) (t : TypeId) (v : AV) (name : String) : Option (FuncId × AV) :=
  match P.info? t with
  | some i => match i.methods.find? (·.name == name) with
    | some m => match m.path.toList, m.func with
      | [], some (f, pr) => match P.underlying t, pr, v with
        | some (.pointer _), true, v => some (f, v)
        | some (.pointer _), false, _ => none
        | some _, false, v => some (f, v)
        | _, _, _ => none
      | _, _ => none
    | none => none
  | none => none

noncomputable def target (P : Program) (fr : Fr) (c : Call) : Option (FuncId × List AV) :=
  match c.callee with
  | .value f => match fr.ev f, evs fr c.args.toList with
    | some (.fn (.func g) first captured), some as => some (g, first ++ as ++ captured)
    | _, _ => none
  | .invoke r name => match fr.ev r, evs fr c.args.toList with
    | some (.iface t v), some as => match methodA P t v name with
      | some (f, rv) => some (f, rv :: as)
      | none => none
    | _, _ => none
  | .builtin _ => none

noncomputable def deferA (fr : Fr) (c : Call) : Option (AV × List AV) :=
  match c.callee with
  | .value f => match fr.ev f, evs fr c.args.toList with
    | some (.fn (.func g) first captured), some as => some (.fn (.func g) first captured, as)
    | _, _ => none
  | _ => none

/-! ### the code -/
inductive Ex where
  | normal
  | exit (id : Nat)
  | ret
  | pan (v : AV)

abbrev Res := Option (List (Ex × Fr × St))

noncomputable def bindR (r : Res) (f : Ex → Fr → St → Res) : Res :=
  match r with
  | none => none
  | some l => go l
where
  go : List (Ex × Fr × St) → Res
    | [] => some []
    | (e, fr, s) :: rest => match f e fr s with
      | none => none
      | some a => match rest with
        | [] => some a
        | _ => match go rest with
          | none => none
          | some b => some (a ++ b)

noncomputable def outsTo (f : AV → St → Res) (fr : Fr) : List Out → Res
  | [] => some []
  | .val v s :: rest => match f v s with
    | none => none
    | some a => match rest with
      | [] => some a
      | _ => match outsTo f fr rest with
        | none => none
        | some b => some (a ++ b)
  | .pan v s :: rest => match outsTo f fr rest with
    | none => none
    | some b => some ((.pan v, fr, s) :: b)

noncomputable def wantedA (fr : Fr) (ops : Array Oper) (o : Oper) : Bool :=
  match o.guard with
  | none => true
  | some (j, want) => match ops.toList[j]? with
    | some g => match g.dst with
      | some d => match fr.t.get d with
        | some (.bool b) => b == want
        | _ => false
      | none => false
    | none => false

noncomputable def keyOf (fr : Fr) (i : Nat) : Nat := Nat.add (Nat.mul fr.fno 16777216) (Nat.add fr.lc i)

abbrev CallF := FuncId → List AV → St → Outs

noncomputable def callTo (call : CallF) (s : St) : Option (FuncId × List AV) → Outs
  | some (f, l) => call f l s
  | none => none
noncomputable def heavyCall (P : Program) (call : CallF) (fr : Fr) (key : Nat) (s : St) (c : Call) : Outs :=
  match c.callee with
  | .builtin b => aBuiltin P fr key s c b
  | _ => callTo call s (target P fr c)
/-- The outcomes of an operation that acts. -/
noncomputable def heavy (P : Program) (call : CallF) (fr : Fr) (key : Nat) (s : St) (op : Op) : Outs :=
  match op with
  | .call c => heavyCall P call fr key s c
  | _ => actOp P fr s op

noncomputable def putK (s : St) (k : Fr → St → Res) : Option Fr → Res
  | some fr => k fr s
  | none => none
noncomputable def putV (fr : Fr) (dst : Option Tmp) (s : St) (k : Fr → St → Res) : Option AV → Res
  | some v => putK s k (fr.put dst v)
  | none => none
noncomputable def putB (fr : Fr) (dst : Option Tmp) (s : St) (key : Nat) (k : Fr → St → Res) : Option (AV × AB) → Res
  | some (v, b) => putK (s.upd key b) k (fr.put dst v)
  | none => none
noncomputable def putO (fr : Fr) (dst : Option Tmp) (k : Fr → St → Res) : Outs → Res
  | some outs => outsTo (fun v s => putK s k (fr.put dst v)) fr outs
  | none => none
noncomputable def putD (fr : Fr) (dst : Option Tmp) (s : St) (k : Fr → St → Res) : Option (AV × List AV) → Res
  | some d => putK s k ((fr.defer d).put dst .undef)
  | none => none
noncomputable def doRecover (fr : Fr) (dst : Option Tmp) (s : St) (k : Fr → St → Res) : Rc → Res
  | .live v false => putK s k ((fr.recovers v).put dst v)
  | .no => none
  | _ => putK s k (fr.put dst .nili)
noncomputable def oneCall (P : Program) (call : CallF) (dst : Option Tmp) (i : Nat) (fr : Fr) (s : St) (c : Call) (k : Fr → St → Res) : Res :=
  match c.callee with
  | .builtin .recover => doRecover fr dst s k fr.rc
  | _ => putO fr dst k (heavyCall P call fr (keyOf fr i) s c)
noncomputable def oneHeavy (P : Program) (call : CallF) (dst : Option Tmp) (i : Nat) (fr : Fr) (s : St) (op : Op) (k : Fr → St → Res) : Res :=
  match op with
  | .defer c => putD fr dst s k (deferA fr c)
  | .call c => oneCall P call dst i fr s c k
  | _ => putO fr dst k (actOp P fr s op)
noncomputable def newBlk (P : Program) (fr : Fr) (h : Heap) (key : Nat) (op : Op) : Option (AV × AB) :=
  match op with
  | .range .. => rangeOp P fr h key op
  | _ => allocOp P fr key op
noncomputable def oneAlloc (P : Program) (dst : Option Tmp) (i : Nat) (fr : Fr) (s : St) (op : Op) (k : Fr → St → Res) : Res :=
  putB fr dst s (keyOf fr i) k (newBlk P fr s.h (keyOf fr i) op)
/-- is there a key for each operation of the region? -/
noncomputable def keysOk (fr : Fr) (n : Nat) : Bool := Nat.ble (Nat.add fr.lc n) 16777215

/-- One operation in a region whose order is the text's. -/
noncomputable def oneOp (P : Program) (G : Glob) (call : CallF) (dst : Option Tmp) (op : Op) (i : Nat) (fr : Fr) (s : St) (k : Fr → St → Res) : Res :=
  match clsOf op with
  | .pure => putV fr dst s k (pureOp P fr op)
  | .read => putV fr dst s k (readOp P G fr s.h op)
  | .alloc => oneAlloc P dst i fr s op k
  | .heavy => oneHeavy P call dst i fr s op k

noncomputable def textOps (P : Program) (G : Glob) (call : CallF) (ops : Array Oper) : List Oper → Nat → Fr → St → Res
  | [], i, fr, s => some [(.normal, fr.bump i, s)]
  | o :: rest, i, fr, s =>
    match wantedA fr ops o with
    | false => putK s (textOps P G call ops rest (Nat.succ i)) (fr.put o.dst .undef)
    | true => oneOp P G call o.dst o.op i fr s (textOps P G call ops rest (Nat.succ i))

noncomputable def iter (f : Fr → St → Res) : Nat → Fr → St → Res
  | 0, _, _ => none
  | m + 1, fr, s => bindR (f fr s) fun e fr' s' => match e with
    | .normal => iter f m fr' s'
    | e => some [(e, fr', s')]

end Go.Ai
