/- A part of an evaluator over an abstract heap and of the proof that it is sound for the model. CONDITIONS: those that each theorem names. -/
import Derived.Test.YtneoghpfbgjaiaaGreatDoorAiCore
namespace Go.Ai

/-! ### regions that draw their order -/
noncomputable def tmpsOf : List Operand → List Nat
  | [] => []
  | .tmp t :: r => t :: tmpsOf r
  | _ :: r => tmpsOf r
noncomputable def guardTmp (ops : List Oper) (o : Oper) : List Nat :=
  match o.guard with
  | none => []
  | some (j, _) => match ops[j]? with
    | some g => match g.dst with
      | some d => [d]
      | none => []
    | none => []
noncomputable def namesOf (ops : List Oper) (o : Oper) : List Nat := tmpsOf o.op.operands.toList ++ guardTmp ops o

noncomputable def predsOf (acc : List Nat) : List Edge → Nat → Nat
  | [], s => s
  | e :: es, s => predsOf acc es (match Region.binds .any e with
    | true => s ||| 2 ^ e.on ||| acc.getD e.on 0
    | false => s)
noncomputable def befores : List Oper → List Nat → List Nat
  | [], acc => acc
  | o :: os, acc => befores os (acc ++ [predsOf acc o.after.toList 0])

noncomputable def isHeavy (o : Oper) : Bool :=
  match clsOf o.op with
  | .heavy => true
  | _ => false

/-- an operation that stands in line with all the others of its kind -/
noncomputable def isBar (o : Oper) : Bool :=
  match o.op with
  | .assign _ => true
  | _ => isHeavy o

noncomputable def hasTmp (d : Option Tmp) (l : List Nat) : Bool :=
  match d with
  | none => false
  | some d => l.any (Nat.beq d)

/-- an operation: its number, those that stand ahead of it, the number of the heavy ones among them, itself -/
abbrev DE := Nat × Nat × Nat × Oper
noncomputable def countIn (b : Nat) : List Nat → Nat
  | [] => 0
  | h :: hs => match b.testBit h with
    | true => Nat.succ (countIn b hs)
    | false => countIn b hs
noncomputable def heavyAt : Nat → List Oper → List Nat
  | _, [] => []
  | i, o :: os => match isBar o with
    | true => i :: heavyAt (Nat.succ i) os
    | false => heavyAt (Nat.succ i) os
noncomputable def entsOf (hs : List Nat) : Nat → List Oper → List Nat → List DE
  | i, o :: os, b :: bs => (i, b, countIn b hs, o) :: entsOf hs (Nat.succ i) os bs
  | _, _, _ => []
noncomputable def pickE (k : Nat) (hv : Bool) : List DE → List DE
  | [] => []
  | (i, b, st, o) :: r => match Nat.beq st k, isBar o, hv with
    | true, true, true => (i, b, st, o) :: pickE k hv r
    | true, false, false => (i, b, st, o) :: pickE k hv r
    | _, _, _ => pickE k hv r
noncomputable def stages (es : List DE) : Nat → Nat → List DE
  | 0, _ => []
  | n + 1, k => pickE k false es ++ (pickE k true es ++ stages es n (Nat.succ k))
/-- each operation as early as may be -/
noncomputable def orderOf (ops : List Oper) : List DE :=
  match heavyAt 0 ops with
  | hs => stages (entsOf hs 0 ops (befores ops [])) (Nat.succ hs.length) 0
noncomputable def covers (a b : Nat) : Bool := Nat.beq (Nat.land a b) b
/-- Each stands behind those that it must stand behind, and behind each heavy one ahead of it. -/
noncomputable def orderOk (full : Nat) : List DE → Nat → Nat → Bool
  | [], done, _ => Nat.beq done full
  | (i, b, _, o) :: r, done, hv => match done.testBit i, covers done b, covers b hv, isBar o with
    | false, true, true, true => orderOk full r (Nat.lor done (2 ^ i)) (Nat.lor hv (2 ^ i))
    | false, true, true, false => orderOk full r (Nat.lor done (2 ^ i)) hv
    | _, _, _, _ => false
/-- who writes one of these names stands ahead of operation i; or is in line, and behind it -/
noncomputable def namesOk (i b : Nat) (names : List Nat) : Nat → List Oper → List Nat → Bool
  | _, [], _ => true
  | j, o :: os, b' :: bs => match hasTmp o.dst names, b.testBit j with
    | true, false => match isBar o, b'.testBit i with
      | true, true => namesOk i b names (Nat.succ j) os bs
      | _, _ => false
    | _, _ => namesOk i b names (Nat.succ j) os bs
  | _, _ :: _, [] => false
noncomputable def sameDst : Option Tmp → Option Tmp → Bool
  | some d, some e => Nat.beq d e
  | _, _ => false
/-- who writes the same name stands behind operation i, and one of the two is in line -/
noncomputable def newName (i : Nat) (bar : Bool) (d : Option Tmp) : List Oper → List Nat → Bool
  | [], _ => true
  | o :: os, b :: bs => match sameDst d o.dst with
    | true => match b.testBit i, bar, isBar o with
      | true, false, true => newName i bar d os bs
      | true, true, _ => newName i bar d os bs
      | _, _, _ => false
    | false => newName i bar d os bs
  | _ :: _, [] => false
noncomputable def namesAll (ops : List Oper) (bs : List Nat) : Nat → List Oper → List Nat → Bool
  | _, [], _ => true
  | i, o :: os, b :: bs' => match namesOk i b (namesOf ops o) 0 ops bs, newName i (isBar o) o.dst os bs' with
    | true, true => namesAll ops bs (Nat.succ i) os bs'
    | _, _ => false
  | _, _ :: _, [] => false
noncomputable def drawOk (ops : List Oper) (order : List DE) : Bool :=
  match orderOk (Nat.sub (2 ^ ops.length) 1) order 0 0 with
  | true => match befores ops [] with
    | bs => namesAll ops bs 0 ops bs
  | false => false

abbrev Made := List (Nat × Nat × AB)
/-- the new blocks of those operations that stand ahead, where they are not there yet -/
noncomputable def addMade (b : Nat) (h : Heap) : Made → Heap
  | [] => h
  | (j, k, blk) :: r => match b.testBit j with
    | true => match hget h k with
      | none => hsetC h k blk fun h => addMade b h r
      | some _ => addMade b h r
    | false => addMade b h r
noncomputable def addAll (h : Heap) : Made → Heap
  | [] => h
  | (_, k, blk) :: r => match hget h k with
    | none => hsetC h k blk fun h => addAll h r
    | some _ => addAll h r

structure Seen where
  made : Made
  reads : List (Nat × Nat × Op × AV)

noncomputable def readsOk (P : Program) (G : Glob) (fr : Fr) (h : Heap) (made : Made) : List (Nat × Op × AV) → Bool
  | [] => true
  | (b, op, v) :: rest => match readOp P G fr (addMade b h made) op with
    | some u => match avEq u v with
      | true => readsOk P G fr h made rest
      | false => false
    | none => false
/-- those that may still stand behind the operation -/
noncomputable def readsLeft (bx : Nat) : List (Nat × Nat × Op × AV) → List (Nat × Op × AV)
  | [] => []
  | (r, b, op, v) :: rest => match bx.testBit r with
    | true => readsLeft bx rest
    | false => (b, op, v) :: readsLeft bx rest
/-- what was set aside is still unknown to the heap -/
noncomputable def asideOk (h1 h' : Heap) : Made → Bool
  | [] => true
  | (_, k, _) :: r => match hget h1 k, hget h' k with
    | none, none => asideOk h1 h' r
    | some _, some _ => asideOk h1 h' r
    | _, _ => false

noncomputable def drawOuts (f : AV → St → Res) (fr : Fr) (behind : Bool) : List Out → Res
  | [] => some []
  | .val v s :: rest => match f v s with
    | none => none
    | some a => match rest with
      | [] => some a
      | _ => match drawOuts f fr behind rest with
        | none => none
        | some b => some (a ++ b)
  | .pan v s :: rest => match behind, drawOuts f fr behind rest with
    | true, some b => some ((.pan v, fr, s) :: b)
    | _, _ => none

noncomputable def dRead (_ : Program) (_ : Glob) (o : Oper) (b i : Nat) (fr : Fr) (s : St) (z : Seen) (k : Fr → St → Seen → Res) : Option AV → Res
  | some v => putK s (fun fr s => match z with | ⟨m, r⟩ => k fr s ⟨m, (i, b, o.op, v) :: r⟩) (fr.put o.dst v)
  | none => none
noncomputable def dAlloc (o : Oper) (i key : Nat) (fr : Fr) (s : St) (z : Seen) (k : Fr → St → Seen → Res) : Option (AV × AB) → Res
  | some (v, blk) => match hget s.h key with
    | none => putK s (fun fr s => match z with | ⟨m, r⟩ => k fr s ⟨(i, key, blk) :: m, r⟩) (fr.put o.dst v)
    | some _ => none
  | none => none
noncomputable def dHeavy2 (P : Program) (G : Glob) (o : Oper) (b done : Nat) (fr : Fr) (h1 : Heap) (z : Seen) (k : Fr → St → Seen → Res) : Outs → Res
  | some outs => drawOuts (fun v s' => match readsOk P G fr s'.h z.made (readsLeft b z.reads), asideOk h1 s'.h z.made with
      | true, true => putK s' (fun fr s => k fr s z) (fr.put o.dst v)
      | _, _ => none) fr (covers b done) outs
  | none => none
noncomputable def dHeavy (P : Program) (G : Glob) (call : CallF) (o : Oper) (b i done : Nat) (fr : Fr) (s1 : St) (z : Seen) (k : Fr → St → Seen → Res) : Res :=
  match o.op with
  | .range .. => none
  | _ => dHeavy2 P G o b done fr s1.h z k (heavy P call fr (keyOf fr i) s1 o.op)
noncomputable def dOne (P : Program) (G : Glob) (call : CallF) (o : Oper) (b i done : Nat) (fr : Fr) (s : St) (z : Seen) (k : Fr → St → Seen → Res) : Res :=
  match clsOf o.op with
  | .pure => putV fr o.dst s (fun fr s => k fr s z) (pureOp P fr o.op)
  | .read => dRead P G o b i fr s z k (readOp P G fr (addMade b s.h z.made) o.op)
  | .alloc => dAlloc o i (keyOf fr i) fr s z k (allocOp P fr (keyOf fr i) o.op)
  | .heavy => dHeavy P G call o b i done fr (s.withH (addMade b s.h z.made)) z k

noncomputable def drawOps (P : Program) (G : Glob) (call : CallF) (ops : Array Oper) (n : Nat) : List DE → Nat → Fr → St → Seen → Res
  | [], _, fr, s, z => some [(.normal, fr.bump n, s.withH (addAll s.h z.made))]
  | (i, b, _, o) :: rest, done, fr, s, z =>
    match wantedA fr ops o with
    | false => putK s (fun fr s => natC (Nat.lor done (2 ^ i)) fun d => drawOps P G call ops n rest d fr s z) (fr.put o.dst .undef)
    | true => dOne P G call o b i done fr s z fun fr s z => natC (Nat.lor done (2 ^ i)) fun d => drawOps P G call ops n rest d fr s z

noncomputable def drawn (P : Program) (G : Glob) (call : CallF) (ops : Array Oper) (order : List DE) (fr : Fr) (s : St) : Res :=
  match drawOk ops.toList order with
  | true => drawOps P G call ops ops.toList.length order 0 fr s ⟨[], []⟩
  | false => none
noncomputable def region (P : Program) (G : Glob) (call : CallF) (ops : Array Oper) (draw : Bool) (fr : Fr) (s : St) : Res :=
  match keysOk fr ops.toList.length, draw with
  | true, false => textOps P G call ops ops.toList 0 fr s
  | true, true => drawn P G call ops (orderOf ops.toList) fr s
  | false, _ => none

noncomputable def code (P : Program) (G : Glob) (call : CallF) (m : Nat) : Code → Fr → St → Res
  | .skip, fr, s => some [(.normal, fr, s)]
  | .label _, fr, s => some [(.normal, fr, s)]
  | .region _ ops draw, fr, s => region P G call ops draw fr s
  | .seq a b, fr, s => bindR (code P G call m a fr s) fun e fr' s' => match e with
    | .normal => code P G call m b fr' s'
    | e => some [(e, fr', s')]
  | .cond c a b, fr, s => match fr.ev c with
    | some (.bool true) => code P G call m a fr s
    | some (.bool false) => code P G call m b fr s
    | _ => none
  | .block id a, fr, s => bindR (code P G call m a fr s) fun e fr' s' => match e with
    | .exit j => match Nat.beq j id with
      | true => some [(.normal, fr', s')]
      | false => some [(.exit j, fr', s')]
    | e => some [(e, fr', s')]
  | .loop a, fr, s => iter (code P G call m a) m fr s
  | .exit id, fr, s => some [(.exit id, fr, s)]
  | .ret, fr, s => some [(.ret, fr, s)]
  | _, _, _ => none

noncomputable def resultA (P : Program) (G : Glob) (fr : Fr) (h : Heap) : ResultVar → Option AV
  | .tmp t => fr.ev (.tmp t)
  | .cell a t => match fr.ev (.tmp a) with
    | some v => loadA P G h t v
    | none => none
noncomputable def resultsA (P : Program) (G : Glob) (fr : Fr) (h : Heap) : List ResultVar → Option (List AV)
  | [] => some []
  | r :: rs => match resultA P G fr h r, resultsA P G fr h rs with
    | some v, some vs => some (v :: vs)
    | _, _ => none
noncomputable def resultOf (P : Program) (G : Glob) (fr : Fr) (h : Heap) (rs : Array ResultVar) : Option AV :=
  match resultsA P G fr h rs.toList with
  | some [v] => some v
  | some vs => some (.tup vs)
  | none => none

/-- how a frame leaves -/
inductive Lv where
  | back
  | pan (v : AV)

noncomputable def bindO (r : Outs) (f : Out → Outs) : Outs :=
  match r with
  | none => none
  | some l => go l
where
  go : List Out → Outs
    | [] => some []
    | o :: rest => match f o with
      | none => none
      | some a => match rest with
        | [] => some a
        | _ => match go rest with
          | none => none
          | some b => some (a ++ b)

/-- a function's body over its arguments; what is deferred comes back with the frame -/
noncomputable def body (P : Program) (G : Glob) (call : CallF) (m : Nat) (fn : Func) (args : List AV) (s : St) (rc : Rc) : Res :=
  match fn.body with
  | none => none
  | some c => match s with
    | ⟨h, fc⟩ => natC fc fun fc => natC (Nat.max fn.ntmps args.length) fun n => T.setListC .e 0 args fun t => natC (fc + 1) fun fc' => code P G call m c ⟨fc, 0, n, t, [], rc⟩ ⟨h, fc'⟩

/-- A deferred call while the frame leaves so; how it leaves then. -/
noncomputable def deferred (P : Program) (G : Glob) (call : CallF) (m : Nat) (d : AV × List AV) (u : Lv) (s : St) : Option (List (Lv × St)) :=
  match d.1 with
  | .fn (.func g) first captured => match P.funcs.toList[g]? with
    | some fn => match body P G call m fn (first ++ d.2 ++ captured) s (match u with | .back => .idle | .pan v => .live v false) with
      | none => none
      | some l => ends fn l
    | none => none
  | _ => none
where
  ends (fn : Func) : List (Ex × Fr × St) → Option (List (Lv × St))
    | [] => some []
    | (e, fr, s) :: rest => match ends fn rest with
      | none => none
      | some b => match e, fr.df, resultOf P G fr s.h fn.results with
        | .normal, [], some _ | .ret, [], some _ => match u, fr.rc with
          | .back, .idle => some ((.back, s) :: b)
          | .pan _, .live _ true => some ((.back, s) :: b)
          | .pan _, .live v false => some ((.pan v, s) :: b)
          | _, _ => none
        | _, _, _ => none

noncomputable def leave (P : Program) (G : Glob) (call : CallF) (m : Nat) (fn : Func) (fr : Fr) : List (AV × List AV) → Lv → St → Outs
  | [], .back, s => match resultOf P G fr s.h fn.results with
    | some v => some [.val v s]
    | none => none
  | [], .pan v, s => some [.pan v s]
  | d :: ds, u, s => match deferred P G call m d u s with
    | none => none
    | some l => go (leave P G call m fn fr ds) l
where
  go (f : Lv → St → Outs) : List (Lv × St) → Outs
    | [] => some []
    | (u, s) :: rest => match f u s with
      | none => none
      | some a => match rest with
        | [] => some a
        | _ => match go f rest with
          | none => none
          | some b => some (a ++ b)

noncomputable def ends (P : Program) (G : Glob) (call : CallF) (m : Nat) (fn : Func) : List (Ex × Fr × St) → Outs
  | [] => some []
  | (e, fr, s) :: rest => match (match e with
      | .normal | .ret => leave P G call m fn fr fr.df .back s
      | .pan v => leave P G call m fn fr fr.df (.pan v) s
      | .exit _ => none) with
    | none => none
    | some a => match rest with
      | [] => some a
      | _ => match ends P G call m fn rest with
        | none => none
        | some b => some (a ++ b)

/-- The library's functions without a body that are known. -/
abbrev Ext := FuncId → List AV → Option AV

noncomputable def call (P : Program) (G : Glob) (X : Ext) (m : Nat) : Nat → CallF
  | 0, _, _, _ => none
  | n + 1, f, args, s => match P.funcs.toList[f]? with
    | none => none
    | some fn => match X f args with
      | some v => some [.val v s]
      | none => match body P G (call P G X m n) m fn args s .no with
        | none => none
        | some l => ends P G (call P G X m n) m fn l

end Go.Ai
