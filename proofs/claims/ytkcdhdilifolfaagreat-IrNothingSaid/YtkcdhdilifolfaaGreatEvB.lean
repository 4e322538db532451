/- An evaluator of the model's code over abstract memory: regions, code, calls. -/
import Derived.Test.YtkcdhdilifolfaaGreatEvA
namespace Go.Ev

/-! ### Regions whose order is drawn: which operations come ahead of which -/
def bit (m i : Nat) : Bool := Nat.beq (Nat.land (Nat.shiftRight m i) 1) 1
def one (i : Nat) : Nat := Nat.shiftLeft 1 i

def opTmps : List Operand → List Tmp
  | [] => []
  | .tmp t :: l => t :: opTmps l
  | _ :: l => opTmps l

/-- What comes ahead of an operation, by its edges, as bits; none: an edge leads to no operation ahead in the text. -/
def predMask (i : Nat) (preds : List Nat) : List Edge → Option Nat
  | [] => some 0
  | e :: l => (predMask i preds l).bind fun m =>
    bif Region.binds .any e then (bif Nat.blt e.on i then some (Nat.lor m (Nat.lor (one e.on) (preds.getD e.on 0))) else none) else some m

/-- Of all operations. -/
def predsOf : List Oper → Nat → List Nat → Option (List Nat)
  | [], _, preds => some preds
  | o :: l, i, preds => (predMask i preds o.after.toList).bind fun m => predsOf l (i + 1) (preds ++ [m])

def dstIs (t : Tmp) : Option Tmp → Bool
  | some d => Nat.beq d t
  | none => false

/-- The operation that writes a temporary. -/
def writer (t : Tmp) : List Oper → Nat → Option Nat
  | [], _ => none
  | o :: l, i => bif dstIs t o.dst then some i else writer t l (i + 1)

/-- Each temporary is written once. -/
def onceOk : List Oper → Bool
  | [] => true
  | o :: l => (match o.dst with | none => true | some d => (writer d l 0).isNone) && onceOk l

def guardTmps (ops : List Oper) (o : Oper) : List Tmp :=
  match o.guard with
  | none => []
  | some (j, _) => match (ops[j]?).bind (·.dst) with
    | some t => [t]
    | none => []

/-- What operation i reads is written ahead of it, or behind it, in every order. -/
def readOk (ops : List Oper) (preds : List Nat) (i : Nat) : List Tmp → Bool
  | [] => true
  | t :: l =>
    (match writer t ops 0 with
     | none => true
     | some p => bif Nat.blt p i then bit (preds.getD i 0) p else bif Nat.blt i p then bit (preds.getD p 0) i else true) && readOk ops preds i l

def allReadsOk (ops : List Oper) (preds : List Nat) : Nat → List Oper → Bool
  | _, [] => true
  | i, o :: l => readOk ops preds i (guardTmps ops o ++ opTmps o.op.operands.toList) && allReadsOk ops preds (i + 1) l

variable (C : Ctx)

/-- The places of the acts. -/
def actsOf : Nat → List Oper → List Nat
  | _, [] => []
  | i, o :: l => match kindOf C o with
    | .act => i :: actsOf (i + 1) l
    | _ => actsOf (i + 1) l

/-- Each act comes ahead of the next one. -/
def actsOk (preds : List Nat) : List Nat → Bool
  | [] => true
  | [_] => true
  | a :: b :: l => bit (preds.getD b 0) a && actsOk preds (b :: l)

def countIn (m : Nat) : List Nat → Nat
  | [] => 0
  | w :: l => bif bit m w then countIn m l + 1 else countIn m l
def countNotAhead (preds : List Nat) (i : Nat) : List Nat → Nat
  | [] => 0
  | w :: l => bif bit (preds.getD w 0) i then countNotAhead preds i l else countNotAhead preds i l + 1

structure Plan where
  preds : List Nat
  acts : List Nat

def planOf (ops : List Oper) : Option Plan :=
  (predsOf ops 0 []).bind fun preds =>
  let acts := actsOf C 0 ops
  bif onceOk ops && (allReadsOk ops preds 0 ops && actsOk preds acts) then some { preds, acts } else none

/-! ### Values that are the same -/
def optNat : Option Nat → Option Nat → Bool
  | none, none => true
  | some a, some b => Nat.beq a b
  | _, _ => false
def sameS : Value → Value → Bool
  | .bool a, .bool b => a == b
  | .int k a, .int k' b => kindEq k k' && intEq a b
  | .string a, .string b => a == b
  | .float .f64 a, .float .f64 b => Nat.beq a b
  | .complex .f64 a b, .complex .f64 c d => Nat.beq a c && Nat.beq b d
  | .pointer none, .pointer none => true
  | .slice none 0 0, .slice none 0 0 => true
  | .map none, .map none => true
  | .nilFunc, .nilFunc => true
  | .nilIface, .nilIface => true
  | _, _ => false
def same1 : V → V → Bool
  | .s a, .s b => sameS a b
  | .ptr a b, .ptr c d => Nat.beq a c && Nat.beq b d
  | .slice a b c d e, .slice a' b' c' d' e' => Nat.beq a a' && (Nat.beq b b' && (Nat.beq c c' && (Nat.beq d d' && e == e')))
  | .map a, .map b => Nat.beq a b
  | .iface t (.ptr a b), .iface u (.ptr c d) => Nat.beq t u && (Nat.beq a c && Nat.beq b d)
  | _, _ => false
/-- Are the sizes that the rope bears right? -/
def Rope.okB {α : Type} : Rope α → Bool
  | .cat n a b => Nat.beq n (a.size + b.size) && (a.okB && b.okB)
  | _ => true
def sameL : List V → List V → Bool
  | [], [] => true
  | a :: l, b :: m => same1 a b && sameL l m
  | _, _ => false
def same : V → V → Bool
  | .agg a, .agg b => b.okB && sameL a.toList b.toList
  | .tup a, .tup b => sameL a b
  | a, b => same1 a b

/-! ### Operations in a frame -/
def evalT (tm : Tm) : Operand → Option V
  | .tmp t => some (tm.get t)
  | .const v => ofValue v
  | .global g => bif Nat.blt g C.ng then some (.ptr g 0) else none
  | .func f => some (.func (.func f) [] [])

def wantedT (ops : List Oper) (tm : Tm) (o : Oper) : Bool :=
  match o.guard with
  | none => true
  | some (j, want) => match (ops[j]?).bind (·.dst) with
    | some t => match tm.get t with
      | .s (.bool b) => bif Nat.blt t tm.n then b == want else false
      | _ => false
    | none => false

inductive X where
  | normal
  | exit (id : Nat)
  | goto (l : Nat)
  | ret
  deriving Inhabited

structure St where
  tm : Tm
  h : Heap
  n : Nat
  defs : List Nat
  deriving Inhabited

def resultsOf (tm : Tm) (h : Heap) : List ResultVar → Option (List V)
  | [] => some []
  | .tmp t :: l => (resultsOf tm h l).bind fun vs => some (tm.get t :: vs)
  | .cell a t :: l => (asPtr (tm.get a)).bind fun p => (load C h t p.1 p.2).bind fun v => (resultsOf tm h l).bind fun vs => some (v :: vs)
def oneOf : List V → V
  | [v] => v
  | vs => .tup vs

/-- The marks of deferred calls are taken away: there are none. -/
def dropDefs : List Nat → Heap → Option Heap
  | [], h => some h
  | d :: l, h => match h.get d with
    | some .defd => dropDefs l (h.del d)
    | _ => none

def argsTm (n : Nat) : Nat → List V → Tree V → Tm
  | _, [], t => { n, t }
  | i, v :: l, t => argsTm n (i + 1) l (t.set i v)

def putAll : List Tmp → List V → Tm → Option Tm
  | [], [], tm => some tm
  | t :: ts, v :: vs, tm => (tm.put (some t) v).bind fun tm => putAll ts vs tm
  | _, _, _ => none

/-! ### A drawn region -/
structure Stage where
  h : Heap
  joined : Nat
  n : Nat

structure Made where
  i : Nat
  id : Nat
  o : O

/-- A read that is to be held against all memories that it may meet. -/
structure Rd where
  i : Nat
  o : Oper
  tm : Tm
  v : V

structure DS where
  tm : Tm
  stages : List Stage   -- the last one first
  made : List Made
  rds : List Rd

/-- Memory with the made blocks that come ahead and are not in it yet. -/
def withMade (pred joined : Nat) : List Made → Heap → Heap
  | [], h => h
  | m :: l, h => bif bit pred m.i && !bit joined m.i then (withMade pred joined l h).set m.id m.o else withMade pred joined l h
def joinMade (pred : Nat) : List Made → Nat → Nat
  | [], j => j
  | m :: l, j => bif bit pred m.i then Nat.lor (joinMade pred l j) (one m.i) else joinMade pred l j

def topStage : List Stage → Option Stage
  | [] => none
  | s :: _ => some s

/-- Is what was read there in all stages from lo on to hi? k: the number of the first one of the list. -/
def readAll (made : List Made) (pred lo hi : Nat) (r : Rd) : Nat → List Stage → Bool
  | _, [] => true
  | k, s :: l =>
    (bif Nat.ble lo k && Nat.ble k hi then
      (match rd C (evalT C r.tm) r.o (withMade pred s.joined made s.h) with
       | some v => same v r.v
       | none => false) else true) && readAll made pred lo hi r (k - 1) l

def checkReads (p : Plan) (made : List Made) (stages : List Stage) : List Rd → Bool
  | [] => true
  | r :: l =>
    readAll C made (p.preds.getD r.i 0) (countIn (p.preds.getD r.i 0) p.acts) (countNotAhead p.preds r.i p.acts) r (stages.length - 1) stages && checkReads p made stages l

/-- A round begins. -/
def setBusy (l : Nat) (h : Heap) : Option Heap :=
  match h.get l with
  | some (.loop .ready pend tm ps as bd) => some (h.set l (.loop .busy pend tm ps as bd))
  | _ => none
def jumpOf : X → Option Code
  | .normal => none
  | .ret => some .ret
  | .exit i => some (.exit i)
  | .goto i => some (.goto i)
/-- A round ends: what yield answers. -/
def endRound (x : X) (l : Nat) (h : Heap) (n : Nat) : Option (V × Heap × Nat) :=
  match h.get l with
  | some (.loop _ _ tm ps as bd) => some (.s (.bool (jumpOf x).isNone), h.set l (.loop (bif (jumpOf x).isNone then .ready else .done) (jumpOf x) tm ps as bd), n)
  | _ => none
/-- A range over a function ends: the jump that is left. -/
def endLoop (l : Nat) (h : Heap) : Option (X × Heap) :=
  match h.get l with
  | some (.loop st pend tm ps as bd) =>
    match st with
    | .busy => none
    | _ => (match pend with
      | none => some X.normal
      | some .ret => some .ret
      | some (.exit i) => some (.exit i)
      | some (.goto i) => some (.goto i)
      | _ => none).bind fun x => some (x, h.set l (.loop .exhausted pend tm ps as bd))
  | _ => none

/-- A range over a function begins: its record's number. -/
def beginLoop (rnd : Option Nat) (ps : List Tmp) (assign body : Code) (s : St) : Option (Nat × St) :=
  match rnd with
  | none => some (s.n + 1, { s with h := (s.h.set s.n .defd).set (s.n + 1) (.loop .ready none s.tm ps assign body), n := s.n + 2, defs := s.n :: s.defs })
  | some l => match s.h.get l with
    | some (.loop ..) => some (s.n, { s with h := s.h.set s.n (.loop .ready none s.tm ps assign body), n := s.n + 1 })
    | _ => none

mutual
def code (fuel : Nat) (rnd : Option Nat) (c : Code) (s : St) : Option (X × St) :=
  match fuel with
  | 0 => none
  | fuel + 1 =>
    match c with
    | .skip | .label _ => some (.normal, s)
    | .region _ ops false => (seqR fuel ops.toList ops.toList s).bind fun s => some (.normal, s)
    | .region _ ops true =>
      (planOf C ops.toList).bind fun p =>
      (drawR fuel p ops.toList ops.toList 0 s.n { tm := s.tm, stages := [{ h := s.h, joined := 0, n := s.n + ops.size }], made := [], rds := [] }).bind fun d =>
      (topStage d.stages).bind fun t =>
      bif checkReads C p d.made d.stages d.rds then
        some (.normal, { tm := d.tm, h := withMade (one ops.size - 1) t.joined d.made t.h, n := t.n, defs := s.defs }) else none
    | .seq a b => (code fuel rnd a s).bind fun r =>
      match r.1 with
      | .normal => code fuel rnd b r.2
      | x => some (x, r.2)
    | .cond c a b => (evalT C s.tm c).bind fun v => (asBool v).bind fun t => bif t then code fuel rnd a s else code fuel rnd b s
    | .block id body => (code fuel rnd body s).bind fun r =>
      match r.1 with
      | .exit id' => bif Nat.beq id' id then some (.normal, r.2) else some (.exit id', r.2)
      | x => some (x, r.2)
    | .loop body => (code fuel rnd body s).bind fun r =>
      match r.1 with
      | .normal => code fuel rnd (.loop body) r.2
      | x => some (x, r.2)
    | .scope body => (code fuel rnd body s).bind fun r =>
      match r.1 with
      | .goto l => scope fuel rnd body l r.2
      | x => some (x, r.2)
    | .exit id => some (.exit id, s)
    | .goto l => some (.goto l, s)
    | .ret => some (.ret, s)
    | .rangeFunc f ps assign body => (evalT C s.tm f).bind fun v =>
      match v with
      | .func (.func g) first caps =>
        (beginLoop rnd ps.toList assign body s).bind fun q =>
        (call fuel g (first ++ [.yield q.1] ++ caps) q.2.h q.2.n).bind fun r =>
        (endLoop q.1 r.2.1).bind fun e => some (e.1, { q.2 with h := e.2, n := r.2.2 })
      | _ => none
    | .refuse _ => none
def scope (fuel : Nat) (rnd : Option Nat) (body : Code) (l : Nat) (s : St) : Option (X × St) :=
  match fuel with
  | 0 => none
  | fuel + 1 =>
    match findLabel body l with
    | none => some (.goto l, s)
    | some rest => (code fuel rnd rest s).bind fun r =>
      match r.1 with
      | .goto l => scope fuel rnd body l r.2
      | x => some (x, r.2)
/-- An operation that acts. -/
def actR (fuel : Nat) (o : Oper) (tm : Tm) (h : Heap) (n : Nat) : Option (V × Heap × Nat) :=
  match fuel with
  | 0 => none
  | fuel + 1 => (act C (evalT C tm) o h n).bind fun r =>
    match r with
    | .val v h n => some (v, h, n)
    | .enter f args => call fuel f args h n
    | .round l args => round fuel l args h n
def seqR (fuel : Nat) (ops : List Oper) (l : List Oper) (s : St) : Option St :=
  match fuel with
  | 0 => none
  | fuel + 1 =>
    match l with
    | [] => some s
    | o :: rest =>
      bif wantedT ops s.tm o then
        match kindOf C o with
        | .quiet | .read => (rd C (evalT C s.tm) o s.h).bind fun v => (s.tm.put o.dst v).bind fun tm => seqR fuel ops rest { s with tm }
        | .make => (mk C (evalT C s.tm) o).bind fun m => (s.tm.put o.dst (m.2.val s.n)).bind fun tm => seqR fuel ops rest { s with tm, h := s.h.set s.n m.1, n := s.n + 1 }
        | .act => (actR fuel o s.tm s.h s.n).bind fun r => (s.tm.put o.dst r.1).bind fun tm => seqR fuel ops rest { s with tm, h := r.2.1, n := r.2.2 }
      else (s.tm.put o.dst undefV).bind fun tm => seqR fuel ops rest { s with tm }
def drawR (fuel : Nat) (p : Plan) (ops : List Oper) (l : List Oper) (i n0 : Nat) (d : DS) : Option DS :=
  match fuel with
  | 0 => none
  | fuel + 1 =>
    match l with
    | [] => some d
    | o :: rest =>
      bif wantedT ops d.tm o then
        match kindOf C o with
        | .quiet => (rd C (evalT C d.tm) o .leaf).bind fun v => (d.tm.put o.dst v).bind fun tm => drawR fuel p ops rest (i + 1) n0 { d with tm }
        | .read => (topStage d.stages).bind fun t =>
          (rd C (evalT C d.tm) o (withMade (p.preds.getD i 0) t.joined d.made t.h)).bind fun v => (d.tm.put o.dst v).bind fun tm =>
            drawR fuel p ops rest (i + 1) n0 { d with tm, rds := { i, o, tm := d.tm, v } :: d.rds }
        | .make => (mk C (evalT C d.tm) o).bind fun m => (d.tm.put o.dst (m.2.val (n0 + i))).bind fun tm =>
            drawR fuel p ops rest (i + 1) n0 { d with tm, made := { i, id := n0 + i, o := m.1 } :: d.made }
        | .act => (topStage d.stages).bind fun t =>
          (actR fuel o d.tm (withMade (p.preds.getD i 0) t.joined d.made t.h) t.n).bind fun r => (d.tm.put o.dst r.1).bind fun tm =>
            drawR fuel p ops rest (i + 1) n0 { d with tm, stages := { h := r.2.1, joined := joinMade (p.preds.getD i 0) d.made t.joined, n := r.2.2 } :: d.stages }
      else
        match kindOf C o with
        | .act => (topStage d.stages).bind fun t => (d.tm.put o.dst undefV).bind fun tm => drawR fuel p ops rest (i + 1) n0 { d with tm, stages := t :: d.stages }
        | _ => (d.tm.put o.dst undefV).bind fun tm => drawR fuel p ops rest (i + 1) n0 { d with tm }
def round (fuel : Nat) (l : Nat) (args : List V) (h : Heap) (n : Nat) : Option (V × Heap × Nat) :=
  match fuel with
  | 0 => none
  | fuel + 1 =>
    match h.get l with
    | some (.loop .ready pend tm ps as bd) =>
      (putAll ps args tm).bind fun tm1 =>
      (code fuel (some l) as { tm := tm1, h, n, defs := [] }).bind fun r =>
      match r.1 with
      | .normal => (setBusy l r.2.h).bind fun h1 => (code fuel (some l) bd { r.2 with h := h1 }).bind fun q => endRound q.1 l q.2.h q.2.n
      | _ => none
    | _ => none
def call (fuel : Nat) (f : FuncId) (args : List V) (h : Heap) (n : Nat) : Option (V × Heap × Nat) :=
  match fuel with
  | 0 => none
  | fuel + 1 => (C.F.get f).bind fun fn =>
    match fn.body with
    | none => none
    | some c =>
      bif Nat.ble args.length fn.ntmps then
        (code fuel none c { tm := argsTm fn.ntmps 0 args .leaf, h, n, defs := [] }).bind fun r =>
        match r.1 with
        | .normal | .ret => (dropDefs r.2.defs r.2.h).bind fun h => (resultsOf C r.2.tm h fn.results.toList).bind fun vs => some (oneOf vs, h, r.2.n)
        | _ => none
      else none
end

/-- A closed call: does it answer true? fuel: enough. -/
def answers (f : FuncId) : Option (V × Nat) := (call C 1000000000 f [] .leaf C.ng).bind fun r => some (r.1, r.2.2)

end Go.Ev
