import GoSem.Step
section
namespace Go.Ev
inductive Tree (α:Type) where
 | leaf
 | node (l:Tree α) (v:Option α) (r:Tree α)
 deriving Inhabited
namespace Tree
variable {α:Type}
def get:Tree α→Nat→Option α
 | .leaf,_=>none
 | .node l v r,n=>bif Nat.beq n 0 then v else bif Nat.beq (n % 2) 1 then l.get (n / 2) else r.get (n / 2-1)
def setF (x:Option α):Nat→Nat→Tree α→Tree α
 | 0,_,t=>t
 | f+1,n,.leaf=>bif Nat.beq n 0 then .node .leaf x .leaf else bif Nat.beq (n % 2) 1 then .node (setF x f (n / 2) .leaf) none .leaf else .node .leaf none (setF x f (n / 2-1) .leaf)
 | f+1,n,.node l v r=>bif Nat.beq n 0 then .node l x r else bif Nat.beq (n % 2) 1 then .node (setF x f (n / 2) l) v r else .node l v (setF x f (n / 2-1) r)
def set (t:Tree α) (n:Nat) (x:α):Tree α:=setF (some x) (n+1) n t
def del (t:Tree α) (n:Nat):Tree α:=setF none (n+1) n t
def half {α:Type}:List α→List α
 | []=>[]
 | [x]=>[x]
 | x::_::l=>x::half l
def ofListF {α:Type}:Nat→List α→Tree α
 | 0,_=>.leaf
 | _+1,[]=>.leaf
 | f+1,x::l=>.node (ofListF f (half l)) (some x) (ofListF f (half l.tail))
def ofList {α:Type} (l:List α):Tree α:=ofListF (l.length+1) l
end Tree
inductive Rope (α:Type) where
 | nil
 | one (v:α)
 | lst (cs:List α)
 | cat (n:Nat) (l r:Rope α)
 deriving Inhabited
namespace Rope
variable {α:Type}
def size:Rope α→Nat
 | .nil=>0
 | .one _=>1
 | .lst cs=>cs.length
 | .cat n _ _=>n
def toList:Rope α→List α
 | .nil=>[]
 | .one v=>[v]
 | .lst cs=>cs
 | .cat _ l r=>l.toList++r.toList
def get:Rope α→Nat→Option α
 | .nil,_=>none
 | .one v,i=>bif Nat.beq i 0 then some v else none
 | .lst cs,i=>cs[i]?
 | .cat _ l r,i=>bif Nat.blt i l.size then l.get i else r.get (i-l.size)
def ext:Rope α→Nat→Nat→Rope α
 | .nil,_,_=>.nil
 | .one v,_,k=>bif Nat.beq k 1 then .one v else .nil
 | .lst cs,off,k=>.lst ((cs.drop off).take k)
 | .cat n l r,off,k=>
  bif Nat.beq k n then .cat n l r else
  bif Nat.ble (off+k) l.size then l.ext off k else
  bif Nat.ble l.size off then r.ext (off-l.size) k else
  .cat k (l.ext off (l.size-off)) (r.ext 0 (off+k-l.size))
def put:Rope α→Nat→Rope α→Rope α
 | .nil,_,_=>.nil
 | .one v,_,new=>bif Nat.beq new.size 1 then new else .one v
 | .lst cs,off,new=>.lst (cs.take off++new.toList++cs.drop (off+new.size))
 | .cat n l r,off,new=>
  bif Nat.beq new.size n then new else
  bif Nat.ble (off+new.size) l.size then .cat n (l.put off new) r else
  bif Nat.ble l.size off then .cat n l (r.put (off-l.size) new) else
  .cat n (l.put off (new.ext 0 (l.size-off))) (r.put 0 (new.ext (l.size-off) (off+new.size-l.size)))
def ofListF {α:Type}:Nat→List α→Rope α
 | 0,l=>.lst l
 | _+1,[]=>.nil
 | _+1,[x]=>.one x
 | f+1,x::y::l=>.cat (l.length+2) (ofListF f ((x::y::l).take ((l.length+2) / 2))) (ofListF f ((x::y::l).drop ((l.length+2) / 2)))
def ofList {α:Type} (l:List α):Rope α:=ofListF 16 l
def app (a b:Rope α):Rope α:=.cat (a.size+b.size) a b
def repF (r:Rope α):Nat→Nat→Rope α
 | 0,n=>.lst (List.replicate n r.toList).flatten
 | f+1,n=>bif Nat.beq n 0 then .nil else bif Nat.beq n 1 then r else .cat (n*r.size) (repF r f (n / 2)) (repF r f (n-n / 2))
def rep (r:Rope α) (n:Nat):Rope α:=repF r 40 n
end Rope
inductive V where
 | s (x:Value)
 | ptr (b off:Nat)
 | slice (b off len cap:Nat) (op:Bool)
 | map (b:Nat)
 | func (fn:Fn) (first caps:List V)
 | yield (l:Nat)
 | iface (t:TypeId) (v:V)
 | agg (r:Rope V)
 | tup (vs:List V)
 deriving Inhabited
structure Ent where
 k:V
 v:V
 born:Nat
 deriving Inhabited
structure Tm where
 n:Nat
 t:Tree V
 deriving Inhabited
inductive O where
 | cells (r:Rope V) (es:Nat)
 | map (es:List Ent) (clock:Nat)
 | mapIter (map:Option Nat) (since:Nat) (seen:List Nat) (stepped:Nat)
 | strIter (s:ByteArray) (pos:Nat)
 | loop (st:LoopState) (pending:Option Code) (tm:Tm) (params:List Tmp) (assign body:Code)
 | defd
 | ro (r:Rope V) (es:Nat)
 | roMap (es:List Ent) (clock:Nat)
 deriving Inhabited
def O.own:O→Bool
 | .ro .. | .roMap ..=>false
 | _=>true
abbrev Heap:=Tree O
def undefV:V:=.s (.tuple #[])
def isScalar:Value→Bool
 | .bool _ | .int .. | .float .. | .complex .. | .string _ | .nilFunc | .nilIface=>true
 | .pointer none | .slice none 0 0 | .map none | .chan none=>true
 | _=>false
def ofCell (x:Value):Option V:=bif isScalar x then some (.s x) else none
def ofCells:List Value→Option (List V)
 | []=>some []
 | x::l=>(ofCell x).bind fun v=>(ofCells l).bind fun vs=>some (v::vs)
def ofValue:Value→Option V
 | .agg cs=>(ofCells cs.toList).bind fun vs=>some (.agg (.ofList vs))
 | x=>ofCell x
def flatV:V→Bool
 | .agg _ | .tup _=>false
 | .s (.agg _) | .s (.tuple _)=>false
 | _=>true
def V.cells:V→Option (Rope V)
 | .agg r=>some r
 | v=>bif flatV v then some (.one v) else none
def Tm.get (tm:Tm) (i:Nat):V:=(tm.t.get i).getD undefV
def Tm.put (tm:Tm) (dst:Option Tmp) (v:V):Option Tm:=
 match dst with
 | none=>some tm
 | some d=>bif Nat.blt d tm.n then some { tm with t:=tm.t.set d v } else none
structure Ty where
 desc:TypeDesc
 agg:Bool
 size:Nat
 bytes:Nat
 comparable:Bool
 methods:List Method
 zero:Option V
 guard:Bool
 stood:Bool
 deriving Inhabited
def descAgg:TypeDesc→Bool
 | .struct _ | .array _ _=>true
 | _=>false
def tyOf (P : Program) (t : TypeId) : Option Ty :=
  (P.info? t).bind fun i => (P.underlying t).bind fun d =>
    some { desc := d, agg := descAgg d, size := i.size, bytes := i.bytes, comparable := i.comparable, methods := i.methods.toList, zero := i.zero.bind ofValue,
           guard := P.eqGuardType P.depth t, stood := P.stoodInHeld t }
structure Ctx where
 P:Program
 T:Tree (Option Ty)
 F:Tree Func
 X:Tree Bool
 ng:Nat
def isCompare (fn:Func):Bool:=fn.body.isNone && (fn.name == "internal/bytealg.Compare" && fn.origin == "")
def Ctx.of (P:Program) (ng:Nat):Ctx:=
 { P,T:=Tree.ofList ((List.range P.types.size).map (tyOf P)),F:=Tree.ofList P.funcs.toList,X:=Tree.ofList (P.funcs.toList.map isCompare),ng }
variable (C:Ctx)
def ty (t:TypeId):Option Ty:=(C.T.get t).bind id
def p2:IntKind→Nat
 | .i8 | .u8=>256
 | .i16 | .u16=>65536
 | .i32 | .u32=>4294967296
 | .i64 | .u64=>18446744073709551616
def wrapF (k:IntKind) (n:Int):Int:=
 let m:=n.emod (Int.ofNat (p2 k))
 bif k.signed then (bif Nat.ble (p2 k / 2) m.toNat then m-Int.ofNat (p2 k) else m) else m
def intEq:Int→Int→Bool
 | .ofNat a,.ofNat b=>Nat.beq a b
 | .negSucc a,.negSucc b=>Nat.beq a b
 | _,_=>false
def intLt:Int→Int→Bool
 | .ofNat a,.ofNat b=>Nat.blt a b
 | .negSucc a,.negSucc b=>Nat.blt b a
 | .negSucc _,.ofNat _=>true
 | .ofNat _,.negSucc _=>false
def pure? {α:Type} (P:Program):Sem α→Option α
 | .pure a=>some a
 | .program k=>pure? P (k P)
 | .mark _ k=>pure? P k
 | _=>none
def kindEq:IntKind→IntKind→Bool
 | .i8,.i8 | .i16,.i16 | .i32,.i32 | .i64,.i64 | .u8,.u8 | .u16,.u16 | .u32,.u32 | .u64,.u64=>true
 | _,_=>false
def fastBin (op:BinOp) (k:IntKind) (a b:Int):Option Value:=
 match op with
 | .add=>some (.int k (wrapF k (a+b)))
 | .sub=>some (.int k (wrapF k (a-b)))
 | .mul=>some (.int k (wrapF k (a*b)))
 | .eql=>some (.bool (intEq a b))
 | .neq=>some (.bool (!intEq a b))
 | .lss=>some (.bool (intLt a b))
 | .leq=>some (.bool (!intLt b a))
 | .gtr=>some (.bool (intLt b a))
 | .geq=>some (.bool (!intLt a b))
 | _=>none
def scalarBin (op:BinOp) (t:TypeId) (a b:Value):Option Value:=
 match a,b with
 | .int k x,.int k' y=>
  bif kindEq k k' then (match fastBin op k x y with | some v=>some v | none=>pure? C.P (binOp op t a b)) else pure? C.P (binOp op t a b)
 | _,_=>pure? C.P (binOp op t a b)
def asPtr:V→Option (Nat×Nat)
 | .ptr b off=>some (b,off)
 | _=>none
def asNat:V→Option Nat
 | .s (.int _ (.ofNat n))=>some n
 | _=>none
def asBool:V→Option Bool
 | .s (.bool b)=>some b
 | _=>none
def part (t:Ty) (r:Rope V) (off:Nat):Option V:=
 bif t.agg then (bif Nat.ble (off+t.size) r.size then some (.agg (r.ext off t.size)) else none) else r.get off
def cellsAt (h:Heap) (b:Nat):Option (Rope V×Nat):=
 match h.get b with
 | some (.cells r es)=>some (r,es)
 | some (.ro r es)=>some (r,es)
 | _=>none
def cellsOwn (h:Heap) (b:Nat):Option (Rope V×Nat):=
 match h.get b with
 | some (.cells r es)=>some (r,es)
 | _=>none
def load (h:Heap) (t:TypeId) (b off:Nat):Option V:=
 (ty C t).bind fun i=>(cellsAt h b).bind fun c=>part i c.1 off
def storeCells (h:Heap) (b off:Nat) (new:Rope V):Option Heap:=
 (cellsOwn h b).bind fun c=>bif Nat.ble (off+new.size) c.1.size then some (h.set b (.cells (c.1.put off new) c.2)) else none
def store (h:Heap) (t:TypeId) (b off:Nat) (v:V):Option Heap:=
 (ty C t).bind fun i=>v.cells.bind fun cs=>bif Nat.beq cs.size i.size then storeCells h b off cs else none
def placeOf (fs:Array Field) (f:Nat):Option (Field×Ty):=
 (fs[f]?).bind fun x=>(ty C x.type).bind fun i=>some (x,i)
def fillS (fs:Array Field):Rope V→List (Nat×V)→Option (Rope V)
 | r,[]=>some r
 | r,(i,v)::rest=>
  (placeOf C fs i).bind fun p=>v.cells.bind fun cs=>
   bif Nat.beq cs.size p.2.size && Nat.ble (p.1.offset+cs.size) r.size then fillS fs (r.put p.1.offset cs) rest else none
def fillA (n:Nat):Rope V→List (Nat×V)→Option (Rope V)
 | r,[]=>some r
 | r,(i,v)::rest=>v.cells.bind fun cs=>
   bif Nat.beq cs.size n && Nat.ble (i*n+cs.size) r.size then fillA n (r.put (i*n) cs) rest else none
def build (t:TypeId) (parts:List (Nat×V)):Option V:=
 (ty C t).bind fun i=>i.zero.bind fun z=>z.cells.bind fun zs=>
  match i.desc with
  | .struct fs=>(fillS C fs zs parts).bind fun r=>some (.agg r)
  | .array _ e=>(ty C e).bind fun j=>(fillA j.size zs parts).bind fun r=>some (.agg r)
  | _=>none
def eqFields (eq:TypeId→V→V→Option Bool):List Field→Rope V→Rope V→Option Bool
 | [],_,_=>some true
 | f::fs,xs,ys=>
  bif f.name == "_" then eqFields eq fs xs ys else
  (ty C f.type).bind fun j=>(part j xs f.offset).bind fun x=>(part j ys f.offset).bind fun y=>(eq f.type x y).bind fun b=>
   bif b then eqFields eq fs xs ys else some false
def eqElems (eq:TypeId→V→V→Option Bool) (e:TypeId) (j:Ty):Nat→Nat→Rope V→Rope V→Option Bool
 | 0,_,_,_=>some true
 | n+1,k,xs,ys=>
  (part j xs (k*j.size)).bind fun x=>(part j ys (k*j.size)).bind fun y=>(eq e x y).bind fun b=>
   bif b then eqElems eq e j n (k+1) xs ys else some false
def eqIn:Nat→TypeId→V→V→Option Bool
 | 0,_,_,_=>none
 | d+1,t,x,y=>
  (ty C t).bind fun i=>
  match i.desc,x,y with
  | .struct fields,.agg xs,.agg ys=>bif i.stood then none else eqFields C (eqIn d) fields.toList xs ys
  | .array len e,.agg xs,.agg ys=>(ty C e).bind fun j=>eqElems (eqIn d) e j len 0 xs ys
  | .interface _,.s .nilIface,.iface ..=>some false
  | .interface _,.iface ..,.s .nilIface=>some false
  | .interface _,.iface tx vx,.iface ty' vy=>
   bif Nat.beq tx ty' then ((ty C tx).bind fun j=>bif j.comparable then eqIn d tx vx vy else none) else some false
  | .pointer _,.s (.pointer none),.ptr ..=>some false
  | .pointer _,.ptr ..,.s (.pointer none)=>some false
  | .slice _,.s (.slice none _ _),.slice ..=>some false
  | .slice _,.slice ..,.s (.slice none _ _)=>some false
  | .map _ _,.s (.map none),.map _=>some false
  | .map _ _,.map _,.s (.map none)=>some false
  | .func ..,.s .nilFunc,.func ..=>some false
  | .func ..,.func ..,.s .nilFunc=>some false
  | .int _,.s (.int k a),.s (.int k' b)=>bif kindEq k k' then some (intEq a b) else none
  | _,.s a,.s b=>pure? C.P (Op.equalIn (d+1) t a b)
  | _,_,_=>none
def isConst:Operand→Bool
 | .const _=>true
 | _=>false
def eqOp (op:BinOp) (r:Option Bool):Option V:=
 match op with
 | .eql=>r.bind fun b=>some (.s (.bool b))
 | .neq=>r.bind fun b=>some (.s (.bool (!b)))
 | _=>none
def bothNil:Value→Value→Bool
 | .nilIface,.nilIface=>true
 | _,_=>false
def binop (op:BinOp) (t:TypeId) (cst:Bool) (x y:V):Option V:=
 match x,y with
 | .s a,.s b=>bif (bif bothNil a b then cst else flatV (.s a)) then (scalarBin C op t a b).bind fun v=>some (.s v) else none
 | .agg _,.agg _=>(ty C t).bind fun i=>bif i.guard then none else eqOp op (eqIn C 10000 t x y)
 | .agg _,_=>none
 | _,.agg _=>none
 | _,_=>eqOp op (eqIn C 10000 t x y)
def bound (v:Option V) (top dflt:Nat):Option Nat:=
 match v with
 | some v=>(asNat v).bind fun m=>bif Nat.ble m top then some m else none
 | none=>some dflt
def bounds (len cap:Nat) (low high max:Option V):Option (Nat×Nat×Nat):=
 bif max.isSome && high.isNone then none else
 (bound max cap cap).bind fun m=>(bound high m len).bind fun h=>(bound low h 0).bind fun l=>some (l,h,m)
def sliceOp (t:TypeId) (x:V) (low high max:Option V):Option V:=
 (ty C t).bind fun i=>
 match i.desc,x with
 | .array n e,.ptr b off=>(ty C e).bind fun j=>(bounds n n low high max).bind fun q=>
   some (.slice b (off+q.1*j.size) (q.2.1-q.1) (q.2.2-q.1) false)
 | .slice e,.slice b off len cap op=>(ty C e).bind fun j=>(bounds len cap low high max).bind fun q=>
   some (.slice b (off+q.1*j.size) (q.2.1-q.1) (q.2.2-q.1) (op && max.isNone))
 | .slice e,.s (.slice none 0 0)=>(ty C e).bind fun _=>(bounds 0 0 low high max).bind fun _=>some (.s (.slice none 0 0))
 | .string,.s (.string s)=>bif max.isSome then none else (bounds s.size s.size low high none).bind fun q=>some (.s (.string (s.extract q.1 q.2.1)))
 | _,_=>none
def indexAddr (t:TypeId) (x ix:V):Option V:=
 (ty C t).bind fun i=>(asNat ix).bind fun k=>
 match i.desc,x with
 | .array len e,.ptr b off=>(ty C e).bind fun j=>bif Nat.blt k len then some (.ptr b (off+k*j.size)) else none
 | .slice e,.slice b off len _ _=>(ty C e).bind fun j=>bif Nat.blt k len then some (.ptr b (off+k*j.size)) else none
 | _,_=>none
def index (t:TypeId) (x ix:V):Option V:=
 (ty C t).bind fun i=>
 match i.desc,x,ix with
 | .array len e,.agg cs,_=>(asNat ix).bind fun k=>(ty C e).bind fun j=>bif Nat.blt k len then part j cs (k*j.size) else none
 | .string,.s a,.s b=>(pure? C.P (Instr.index t a b)).bind fun v=>some (.s v)
 | _,_,_=>none
def keyNow:TypeDesc→V→V→Option Bool
 | .int _,.s (.int k a),.s (.int k' b)=>bif kindEq k k' then some (intEq a b) else none
 | .string,.s (.string a),.s (.string b)=>some (a == b)
 | .bool,.s (.bool a),.s (.bool b)=>some (a == b)
 | _,_,_=>none
def findKey (d:TypeDesc) (k:V):List Ent→Nat→Option (Option (Nat×V))
 | [],_=>some none
 | e::es,i=>(keyNow d k e.k).bind fun b=>bif b then some (some (i,e.v)) else findKey d k es (i+1)
def plainKey:TypeDesc→Bool
 | .int _ | .string | .bool=>true
 | _=>false
def mapAt (h:Heap):V→Option (List Ent×Nat)
 | .s (.map none)=>some ([],0)
 | .map b=>match h.get b with
  | some (.map es c)=>some (es,c)
  | some (.roMap es c)=>some (es,c)
  | _=>none
 | _=>none
def mapOwn (h:Heap) (b:Nat):Option (List Ent×Nat):=
 match h.get b with
 | some (.map es c)=>some (es,c)
 | _=>none
def mapTy (t:TypeId):Option (TypeDesc×TypeId):=
 (ty C t).bind fun i=>
 match i.desc with
 | .map k e=>(ty C k).bind fun j=>bif plainKey j.desc then some (j.desc,e) else none
 | _=>none
def lookup (h:Heap) (t:TypeId) (x ix:V) (ok:Bool):Option V:=
 (mapTy C t).bind fun ke=>(mapAt h x).bind fun m=>(findKey ke.1 ix m.1 0).bind fun r=>
 match r with
 | some (_,v)=>some (bif ok then .tup [v,.s (.bool true)] else v)
 | none=>(ty C ke.2).bind fun i=>i.zero.bind fun z=>some (bif ok then .tup [z,.s (.bool false)] else z)
def modifyAt (k v:V):Nat→List Ent→List Ent
 | _,[]=>[]
 | 0,e::es=>{ e with k,v }::es
 | n+1,e::es=>e::modifyAt k v n es
def mapUpdate (h:Heap) (t:TypeId) (m k v:V):Option Heap:=
 (mapTy C t).bind fun ke=>
 match m with
 | .map b=>(mapOwn h b).bind fun c=>(findKey ke.1 k c.1 0).bind fun r=>
  match r with
  | some (i,_)=>some (h.set b (.map (modifyAt k v i c.1) c.2))
  | none=>some (h.set b (.map (c.1++[{ k,v,born:=c.2 }]) (c.2+1)))
 | _=>none
def mapDelete (h:Heap) (t:TypeId) (m k:V):Option Heap:=
 (mapTy C t).bind fun ke=>
 match m with
 | .s (.map none)=>some h
 | .map b=>(mapOwn h b).bind fun c=>(findKey ke.1 k c.1 0).bind fun r=>
  match r with
  | some (i,_)=>some (h.set b (.map (c.1.eraseIdx i) c.2))
  | none=>some (h.set b (.map c.1 c.2))
 | _=>none
def typeAssert (x:V) (asserted:TypeId) (ok:Bool):Option V:=
 let holds (v:V):Option V:=some (bif ok then .tup [v,.s (.bool true)] else v)
 (ty C asserted).bind fun i=>
 let fails:Option V:=bif ok then i.zero.bind fun z=>some (.tup [z,.s (.bool false)]) else none
 match i.desc,x with
 | .interface _,.s .nilIface=>fails
 | .interface want,.iface t _=>
  (ty C t).bind fun j=>
  match Instr.missingMethod want j.methods.toArray with
  | none=>holds x
  | some _=>fails
 | _,.s .nilIface=>fails
 | _,.iface t v=>bif Nat.beq t asserted then holds v else fails
 | _,_=>none
def lenV (h:Heap) (t:TypeId) (x:V):Option V:=
 (ty C t).bind fun i=>
 match i.desc,x with
 | .string,.s (.string s)=>some (.s (goInt s.size))
 | .array n _,_=>some (.s (goInt n))
 | .pointer arr,_=>(ty C arr).bind fun j=>match j.desc with
  | .array n _=>some (.s (goInt n))
  | _=>none
 | .slice _,.slice _ _ n _ _=>some (.s (goInt n))
 | .slice _,.s (.slice none 0 0)=>some (.s (goInt 0))
 | .slice _,.s (.slice (some _) 0 0)=>some (.s (goInt 0))
 | .map _ _,m=>(mapAt h m).bind fun c=>some (.s (goInt c.1.length))
 | _,_=>none
def capV (t:TypeId) (x:V):Option V:=
 (ty C t).bind fun i=>
 match i.desc,x with
 | .array n _,_=>some (.s (goInt n))
 | .slice _,.slice _ _ _ c false=>some (.s (goInt c))
 | .slice _,.s (.slice none 0 0)=>some (.s (goInt 0))
 | _,_=>none
def bytesV (l:List UInt8):List V:=l.map fun b=>.s (.int .u8 b.toNat)
def firstCells (h:Heap) (sz n:Nat):V→Option (Rope V)
 | .slice b off len _ _=>bif Nat.ble n len then (bif Nat.beq (n*sz) 0 then some .nil else (cellsAt h b).bind fun c=>bif Nat.ble (off+n*sz) c.1.size then some (c.1.ext off (n*sz)) else none) else none
 | .s (.slice none 0 0)=>bif Nat.beq n 0 then some .nil else none
 | .s (.slice (some _) 0 0)=>bif Nat.beq n 0 then some .nil else none
 | .s (.string s)=>some (.ofList (bytesV ((s.extract 0 n).data.toList)))
 | _=>none
def lenOf:V→Option Nat
 | .slice _ _ n _ _=>some n
 | .s (.slice none 0 0)=>some 0
 | .s (.slice (some _) 0 0)=>some 0
 | .s (.string s)=>some s.size
 | _=>none
def grown (h:Heap) (n need:Nat) (j:Ty) (row:Rope V):Option (V×Heap×Nat):=
 j.zero.bind fun z=>z.cells.bind fun zs=>
 bif Nat.beq zs.size j.size && Nat.ble ((2*need+192)*j.bytes) 281474976710656 then some (.slice n 0 need need true,h.set n (.cells row j.size),n+1) else none
def append (h:Heap) (n:Nat) (at0 at1:TypeId) (s x:V):Option (V×Heap×Nat):=
 (ty C at0).bind fun i0=>(ty C at1).bind fun i1=>
 match i0.desc,i1.desc with
 | _,.int _=>none
 | .slice e,_=>(ty C e).bind fun j=>
  bif Nat.beq j.size 0 || Nat.beq j.bytes 0 then none else
  (lenOf x).bind fun m=>(firstCells h j.size m x).bind fun new=>
  bif !Nat.beq new.size (m*j.size) then none else
  match s with
  | .s (.slice none 0 0)=>
   bif Nat.beq m 0 then some (s,h,n) else grown h n m j new
  | .slice b off len cap op=>
   bif Nat.ble (len+m) cap then
    (bif Nat.beq new.size 0 then some h else bif Nat.beq m 0 then none else storeCells h b (off+len*j.size) new).bind fun h=>some (.slice b off (len+m) cap op,h,n)
   else
    (firstCells h j.size len s).bind fun old=>
    bif op then
     (cellsOwn h b).bind fun c=>
      bif Nat.beq c.2 j.size && Nat.beq (off+cap*j.size) c.1.size then grown (h.del b) n (len+m) j (old.app new) else none
    else grown h n (len+m) j (old.app new)
  | _=>none
 | _,_=>none
def copy (h:Heap) (at0:TypeId) (d x:V):Option (V×Heap):=
 (ty C at0).bind fun i=>
 match i.desc with
 | .slice e=>(ty C e).bind fun j=>(lenOf x).bind fun a=>
  match d with
  | .slice b off len _ _=>
   let m:=bif Nat.ble a len then a else len
   (firstCells h j.size m x).bind fun cs=>
   bif Nat.beq cs.size 0 then some (.s (goInt m),h) else bif Nat.beq m 0 then none else
   (storeCells h b off cs).bind fun h=>some (.s (goInt m),h)
  | .s (.slice none 0 0)=>(firstCells h j.size 0 x).bind fun _=>some (.s (goInt 0),h)
  | _=>none
 | _=>none
def toBytes:List V→Option (List UInt8)
 | []=>some []
 | .s (.int .u8 n)::l=>(toBytes l).bind fun bs=>some (UInt8.ofNat n.toNat::bs)
 | _=>none
def convert (h:Heap) (src dst:TypeId) (x:V):Option V:=
 (ty C src).bind fun i=>(ty C dst).bind fun j=>
 match i.desc,j.desc,x with
 | .slice e,.string,.slice b off len _ _=>(ty C e).bind fun k=>
  match k.desc with
  | .int .u8=>(firstCells h 1 len (.slice b off len len false)).bind fun cs=>(toBytes cs.toList).bind fun bs=>some (.s (.string ⟨bs.toArray⟩))
  | _=>none
 | .slice e,.string,.s (.slice none 0 0)=>(ty C e).bind fun k=>
  match k.desc with
  | .int .u8=>some (.s (.string .empty))
  | _=>none
 | _,.slice _,_=>none
 | .slice _,_,_=>none
 | _,.int k,.s (.int _ n)=>some (.s (.int k (wrapF k n)))
 | _,_,.s a=>(pure? C.P (Go.convert src dst a)).bind fun v=>some (.s v)
 | _,_,_=>none
inductive K where
 | quiet | read | make | act
 deriving DecidableEq
def kindOf (o:Oper):K:=
 match o.op with
 | .move _ | .assign _ | .pick .. | .build .. | .nilCheck _ | .binOp .. | .unOp .. | .makeInterface .. | .makeFunc .. | .slice .. | .fieldAddr .. | .field ..
 | .indexAddr .. | .index .. | .extract .. | .typeAssert ..=>.quiet
 | .convert src dst _=>
  match (ty C src).map Ty.desc,(ty C dst).map Ty.desc with
  | some TypeDesc.string,some (TypeDesc.slice _)=>.make
  | some (TypeDesc.slice _),_=>.read
  | _,_=>.quiet
 | .load .. | .lookup ..=>.read
 | .alloc _ | .box .. | .buildSlice .. | .makeMap .. | .makeSlice ..=>.make
 | .call c=>match c.callee with
  | .builtin .len=>.read
  | .builtin .cap | .builtin .min | .builtin .max | .builtin .real | .builtin .imag | .builtin .complex=>.quiet
  | _=>.act
 | _=>.act
def evs (ev:Operand→Option V):List Operand→Option (List V)
 | []=>some []
 | x::l=>(ev x).bind fun v=>(evs ev l).bind fun vs=>some (v::vs)
def evp (ev:Operand→Option V):List (Nat×Operand)→Option (List (Nat×V))
 | []=>some []
 | (i,x)::l=>(ev x).bind fun v=>(evp ev l).bind fun vs=>some ((i,v)::vs)
def evo (ev:Operand→Option V):Option Operand→Option (Option V)
 | none=>some none
 | some x=>(ev x).bind fun v=>some (some v)
def scalars:List V→Option (List Value)
 | []=>some []
 | .s a::l=>(scalars l).bind fun vs=>some (a::vs)
 | _=>none
def rd (ev:Operand→Option V) (o:Oper) (h:Heap):Option V:=
 match o.op with
 | .move x | .assign x=>ev x
 | .pick c a b=>(ev c).bind fun c=>(asBool c).bind fun c=>bif c then ev a else ev b
 | .build t ps=>(evp ev ps.toList).bind fun vs=>build C t vs
 | .load t a=>(ev a).bind fun p=>(asPtr p).bind fun p=>load C h t p.1 p.2
 | .nilCheck x=>(ev x).bind fun v=>
  match v with
  | .ptr .. | .func (.func _) _ _ | .iface ..=>some v
  | _=>none
 | .binOp op t x y _=>(ev x).bind fun a=>(ev y).bind fun b=>binop C op t (isConst x || isConst y) a b
 | .unOp op _ x=>(ev x).bind fun v=>
  match v with
  | .s a=>(pure? C.P (Op.unary op a)).bind fun r=>some (.s r)
  | _=>none
 | .convert src dst x=>(ev x).bind fun v=>convert C h src dst v
 | .makeInterface t x=>(ev x).bind fun v=>(ty C t).bind fun i=>match i.desc with
  | .interface _=>none
  | _=>some (.iface t v)
 | .makeFunc fn first caps=>(evs ev first.toList).bind fun a=>(evs ev caps.toList).bind fun b=>match fn with
  | .yield _=>none
  | _=>some (.func fn a b)
 | .slice t x lo hi mx=>(ev x).bind fun v=>(evo ev lo).bind fun lo=>(evo ev hi).bind fun hi=>(evo ev mx).bind fun mx=>sliceOp C t v lo hi mx
 | .fieldAddr st x f=>(ev x).bind fun v=>(asPtr v).bind fun p=>(ty C st).bind fun i=>
  match i.desc with
  | .struct fs=>(placeOf C fs f).bind fun q=>bif Nat.beq q.2.size 0 then none else some (.ptr p.1 (p.2+q.1.offset))
  | _=>none
 | .field st x f=>(ev x).bind fun v=>(ty C st).bind fun i=>
  match i.desc,v with
  | .struct fs,.agg cs=>(placeOf C fs f).bind fun q=>part q.2 cs q.1.offset
  | _,_=>none
 | .indexAddr t x ix=>(ev x).bind fun v=>(ev ix).bind fun k=>indexAddr C t v k
 | .index t x ix=>(ev x).bind fun v=>(ev ix).bind fun k=>index C t v k
 | .lookup t x ix ok=>(ev x).bind fun v=>(ev ix).bind fun k=>lookup C h t v k ok
 | .extract t i=>(ev t).bind fun v=>
  match v with
  | .tup vs=>vs[i]?
  | _=>none
 | .typeAssert x _ a ok=>(ev x).bind fun v=>typeAssert C v a ok
 | .call c=>(evs ev c.args.toList).bind fun args=>
  match c.callee,args with
  | .builtin .len,[x]=>c.argTypes[0]?.bind fun t=>lenV C h t x
  | .builtin .cap,[x]=>c.argTypes[0]?.bind fun t=>capV C t x
  | .builtin .min,xs=>(scalars xs).bind fun ys=>(pure? C.P (Builtin.min_ c.argTypes o.type ys.toArray)).bind fun v=>some (.s v)
  | .builtin .max,xs=>(scalars xs).bind fun ys=>(pure? C.P (Builtin.max_ c.argTypes o.type ys.toArray)).bind fun v=>some (.s v)
  | .builtin .real,xs=>(scalars xs).bind fun ys=>(pure? C.P (Builtin.real_ c.argTypes o.type ys.toArray)).bind fun v=>some (.s v)
  | .builtin .imag,xs=>(scalars xs).bind fun ys=>(pure? C.P (Builtin.imag_ c.argTypes o.type ys.toArray)).bind fun v=>some (.s v)
  | .builtin .complex,xs=>(scalars xs).bind fun ys=>(pure? C.P (Builtin.complex_ c.argTypes o.type ys.toArray)).bind fun v=>some (.s v)
  | _,_=>none
 | _=>none
inductive Mk where
 | ptr
 | slice (len cap:Nat) (op:Bool)
 | map
def Mk.val (b:Nat):Mk→V
 | .ptr=>.ptr b 0
 | .slice len cap op=>.slice b 0 len cap op
 | .map=>.map b
def mk (ev:Operand→Option V) (o:Oper):Option (O×Mk):=
 match o.op with
 | .alloc t=>(ty C t).bind fun i=>i.zero.bind fun z=>z.cells.bind fun zs=>some (.cells zs i.size,.ptr)
 | .box t x=>(ev x).bind fun v=>(ty C t).bind fun i=>v.cells.bind fun cs=>some (.cells cs i.size,.ptr)
 | .buildSlice t len ps=>(ty C t).bind fun i=>
  match i.desc with
  | .slice e=>(ty C e).bind fun j=>j.zero.bind fun z=>z.cells.bind fun zs=>(evp ev ps.toList).bind fun vs=>
   bif Nat.ble (len*j.size) 16777216 && (!Nat.beq j.size 0 && Nat.beq zs.size j.size) then
    (fillA j.size (zs.rep len) vs).bind fun r=>some (.cells r j.size,.slice len len false)
   else none
  | _=>none
 | .makeMap _ none=>some (.map [] 0,.map)
 | .makeSlice t l c=>(ty C t).bind fun i=>
  match i.desc with
  | .slice e=>(ty C e).bind fun j=>j.zero.bind fun z=>z.cells.bind fun zs=>(ev l).bind fun l=>(asNat l).bind fun l=>(ev c).bind fun c=>(asNat c).bind fun c=>
   bif Nat.ble l c && (Nat.ble (j.bytes*c) 281474976710656 && (Nat.blt c 9223372036854775808 && (!Nat.beq j.size 0 && Nat.beq zs.size j.size))) then some (.cells (zs.rep c) j.size,.slice l c false) else none
  | _=>none
 | .convert src dst x=>(ev x).bind fun v=>(ty C src).bind fun i=>(ty C dst).bind fun j=>
  match i.desc,j.desc,v with
  | .string,.slice e,.s (.string s)=>(ty C e).bind fun k=>
   match k.desc with
   | .int .u8=>some (.cells (.ofList (bytesV s.data.toList)) 1,.slice s.size s.size true)
   | _=>none
  | _,_,_=>none
 | _=>none
inductive Out where
 | val (v:V) (h:Heap) (n:Nat)
 | enter (f:FuncId) (args:List V)
 | round (l:Nat) (args:List V)
def methodOf (t:TypeId) (v:V) (name:String):Option (FuncId×V):=
 (ty C t).bind fun i=>(i.methods.find? (·.name == name)).bind fun m=>
 bif m.path.isEmpty then
  m.func.bind fun fp=>
  match i.desc,fp.2 with
  | .pointer _,true=>some (fp.1,v)
  | .pointer _,false=>none
  | _,true=>none
  | _,false=>some (fp.1,v)
 else none
def bytesAt (h:Heap):V→Option ByteArray
 | .slice b off len _ _=>(firstCells h 1 len (.slice b off len len false)).bind fun cs=>(toBytes cs.toList).bind fun bs=>some ⟨bs.toArray⟩
 | .s (.slice none 0 0)=>some .empty
 | _=>none
def compareB (h:Heap) (n:Nat):List V→Option Out
 | [a,b]=>(bytesAt h a).bind fun x=>(bytesAt h b).bind fun y=>some (.val (.s (goInt (Extern.BytealgCompare.cmp x y))) h n)
 | _=>none
def callFn (h:Heap) (n:Nat) (fn:Fn) (args caps:List V):Option Out:=
 match fn with
 | .func f=>match C.X.get f with
  | some true=>compareB h n (args++caps)
  | _=>some (.enter f (args++caps))
 | .yield _=>none
 | .via t path f pr=>
  bif path.isEmpty then
   match args with
   | x::rest=>(ty C t).bind fun i=>
    match i.desc,pr with
    | .pointer _,true=>some (.enter f (x::rest))
    | .pointer _,false=>none
    | _,true=>none
    | _,false=>some (.enter f (x::rest))
   | []=>none
  else none
 | _=>none
def act (ev:Operand→Option V) (o:Oper) (h:Heap) (n:Nat):Option Out:=
 match o.op with
 | .insert t m k x | .mapUpdate t m k x=>(ev m).bind fun m=>(ev k).bind fun k=>(ev x).bind fun x=>(mapUpdate C h t m k x).bind fun h=>some (.val undefV h n)
 | .store t a x=>(ev a).bind fun p=>(asPtr p).bind fun p=>(ev x).bind fun v=>(store C h t p.1 p.2 v).bind fun h=>some (.val undefV h n)
 | .range t x=>(ty C t).bind fun i=>(ev x).bind fun v=>
  match i.desc,v with
  | .string,.s (.string s)=>some (.val (.ptr n 0) (h.set n (.strIter s 0)) (n+1))
  | .map _ _,.s (.map none)=>some (.val (.ptr n 0) (h.set n (.mapIter none 0 [] 0)) (n+1))
  | .map _ _,.map b=>(mapAt h (.map b)).bind fun c=>some (.val (.ptr n 0) (h.set n (.mapIter (some b) c.2 [] c.2)) (n+1))
  | _,_=>none
 | .next it isString=>(ev it).bind fun p=>(asPtr p).bind fun p=>
  bif Nat.beq p.2 0 then
   match h.get p.1,isString with
   | some (.strIter s pos),true=>
    bif Nat.blt pos s.size then
     let d:=Utf8.decode s pos
     some (.val (.tup [.s (.bool true),.s (goInt pos),.s (.int .i32 d.1)]) (h.set p.1 (.strIter s (pos+d.2))) n)
    else some (.val (.tup [.s (.bool false)]) h n)
   | some (.mapIter none _ _ _),false=>some (.val (.tup [.s (.bool false)]) h n)
   | some (.mapIter (some m) since seen last),false=>
    (mapAt h (.map m)).bind fun c=>
    bif !seen.isEmpty && (!c.1.isEmpty && c.1.all fun e=>Nat.ble last e.born) then none else
    match c.1.filter fun e=>!seen.contains e.born with
    | []=>some (.val (.tup [.s (.bool false)]) h n)
    | [e]=>bif Nat.blt e.born since then
      some (.val (.tup [.s (.bool true),e.k,e.v]) (h.set p.1 (.mapIter (some m) since (seen++[e.born]) c.2)) n) else none
    | _=>none
   | _,_=>none
  else none
 | .call c=>(evs ev c.args.toList).bind fun args=>
  match c.callee with
  | .value f=>(ev f).bind fun f=>
   match f with
   | .func fn first caps=>callFn C h n fn (first++args) caps
   | .yield l=>some (.round l args)
   | _=>none
  | .invoke r m=>(ev r).bind fun r=>
   match r with
   | .iface t x=>(methodOf C t x m).bind fun q=>some (.enter q.1 (q.2::args))
   | _=>none
  | .builtin .append=>match args with
   | [a,x]=>c.argTypes[0]?.bind fun t0=>c.argTypes[1]?.bind fun t1=>(append C h n t0 t1 a x).bind fun r=>some (.val r.1 r.2.1 r.2.2)
   | _=>none
  | .builtin .copy=>match args with
   | [a,x]=>c.argTypes[0]?.bind fun t0=>(copy C h t0 a x).bind fun r=>some (.val r.1 r.2 n)
   | _=>none
  | .builtin .delete=>match args with
   | [m,k]=>c.argTypes[0]?.bind fun t0=>(mapDelete C h t0 m k).bind fun h=>some (.val undefV h n)
   | _=>none
  | _=>none
 | _=>none
end Go.Ev
end
section
namespace Go.Ev
def bit (m i:Nat):Bool:=Nat.beq (Nat.land (Nat.shiftRight m i) 1) 1
def one (i:Nat):Nat:=Nat.shiftLeft 1 i
def opTmps:List Operand→List Tmp
 | []=>[]
 | .tmp t::l=>t::opTmps l
 | _::l=>opTmps l
def predMask (i:Nat) (preds:List Nat):List Edge→Option Nat
 | []=>some 0
 | e::l=>(predMask i preds l).bind fun m=>
  bif Region.binds .any e then (bif Nat.blt e.on i then some (Nat.lor m (Nat.lor (one e.on) (preds.getD e.on 0))) else none) else some m
def predsOf:List Oper→Nat→List Nat→Option (List Nat)
 | [],_,preds=>some preds
 | o::l,i,preds=>(predMask i preds o.after.toList).bind fun m=>predsOf l (i+1) (preds++[m])
def dstIs (t:Tmp):Option Tmp→Bool
 | some d=>Nat.beq d t
 | none=>false
def writer (t:Tmp):List Oper→Nat→Option Nat
 | [],_=>none
 | o::l,i=>bif dstIs t o.dst then some i else writer t l (i+1)
def onceOk:List Oper→Bool
 | []=>true
 | o::l=>(match o.dst with | none=>true | some d=>(writer d l 0).isNone) && onceOk l
def guardTmps (ops:List Oper) (o:Oper):List Tmp:=
 match o.guard with
 | none=>[]
 | some (j,_)=>match (ops[j]?).bind (·.dst) with
  | some t=>[t]
  | none=>[]
def readOk (ops : List Oper) (preds : List Nat) (i : Nat) : List Tmp → Bool
  | [] => true
  | t :: l =>
    (match writer t ops 0 with
     | none => true
     | some p => bif Nat.blt p i then bit (preds.getD i 0) p else bif Nat.blt i p then bit (preds.getD p 0) i else true) && readOk ops preds i l
def allReadsOk (ops:List Oper) (preds:List Nat):Nat→List Oper→Bool
 | _,[]=>true
 | i,o::l=>readOk ops preds i (guardTmps ops o++opTmps o.op.operands.toList) && allReadsOk ops preds (i+1) l
variable (C:Ctx)
def actsOf:Nat→List Oper→List Nat
 | _,[]=>[]
 | i,o::l=>match kindOf C o with
  | .act=>i::actsOf (i+1) l
  | _=>actsOf (i+1) l
def actsOk (preds:List Nat):List Nat→Bool
 | []=>true
 | [_]=>true
 | a::b::l=>bit (preds.getD b 0) a && actsOk preds (b::l)
def countIn (m:Nat):List Nat→Nat
 | []=>0
 | w::l=>bif bit m w then countIn m l+1 else countIn m l
def countNotAhead (preds:List Nat) (i:Nat):List Nat→Nat
 | []=>0
 | w::l=>bif bit (preds.getD w 0) i then countNotAhead preds i l else countNotAhead preds i l+1
structure Plan where
 preds:List Nat
 acts:List Nat
def planOf (ops:List Oper):Option Plan:=
 (predsOf ops 0 []).bind fun preds=>
 let acts:=actsOf C 0 ops
 bif onceOk ops && (allReadsOk ops preds 0 ops && actsOk preds acts) then some { preds,acts } else none
def sameS:Value→Value→Bool
 | .bool a,.bool b=>a == b
 | .int k a,.int k' b=>kindEq k k' && intEq a b
 | .string a,.string b=>a == b
 | .float .f64 a,.float .f64 b=>Nat.beq a b
 | .complex .f64 a b,.complex .f64 c d=>Nat.beq a c && Nat.beq b d
 | .pointer none,.pointer none=>true
 | .slice none 0 0,.slice none 0 0=>true
 | .map none,.map none=>true
 | .nilFunc,.nilFunc=>true
 | .nilIface,.nilIface=>true
 | _,_=>false
def same1:V→V→Bool
 | .s a,.s b=>sameS a b
 | .ptr a b,.ptr c d=>Nat.beq a c && Nat.beq b d
 | .slice a b c d e,.slice a' b' c' d' e'=>Nat.beq a a' && (Nat.beq b b' && (Nat.beq c c' && (Nat.beq d d' && e == e')))
 | .map a,.map b=>Nat.beq a b
 | .iface t (.ptr a b),.iface u (.ptr c d)=>Nat.beq t u && (Nat.beq a c && Nat.beq b d)
 | _,_=>false
def Rope.okB {α:Type}:Rope α→Bool
 | .cat n a b=>Nat.beq n (a.size+b.size) && (a.okB && b.okB)
 | _=>true
def sameL:List V→List V→Bool
 | [],[]=>true
 | a::l,b::m=>same1 a b && sameL l m
 | _,_=>false
def same:V→V→Bool
 | .agg a,.agg b=>b.okB && sameL a.toList b.toList
 | .tup a,.tup b=>sameL a b
 | a,b=>same1 a b
def evalT (tm:Tm):Operand→Option V
 | .tmp t=>some (tm.get t)
 | .const v=>ofValue v
 | .global g=>bif Nat.blt g C.ng then some (.ptr g 0) else none
 | .func f=>some (.func (.func f) [] [])
def wantedT (ops:List Oper) (tm:Tm) (o:Oper):Bool:=
 match o.guard with
 | none=>true
 | some (j,want)=>match (ops[j]?).bind (·.dst) with
  | some t=>match tm.get t with
   | .s (.bool b)=>bif Nat.blt t tm.n then b == want else false
   | _=>false
  | none=>false
inductive X where
 | normal
 | exit (id:Nat)
 | goto (l:Nat)
 | ret
 deriving Inhabited
structure St where
 tm:Tm
 h:Heap
 n:Nat
 defs:List Nat
 deriving Inhabited
def resultsOf (tm:Tm) (h:Heap):List ResultVar→Option (List V)
 | []=>some []
 | .tmp t::l=>(resultsOf tm h l).bind fun vs=>some (tm.get t::vs)
 | .cell a t::l=>(asPtr (tm.get a)).bind fun p=>(load C h t p.1 p.2).bind fun v=>(resultsOf tm h l).bind fun vs=>some (v::vs)
def oneOf:List V→V
 | [v]=>v
 | vs=>.tup vs
def dropDefs:List Nat→Heap→Option Heap
 | [],h=>some h
 | d::l,h=>match h.get d with
  | some .defd=>dropDefs l (h.del d)
  | _=>none
def argsTm (n:Nat):Nat→List V→Tree V→Tm
 | _,[],t=>{ n,t }
 | i,v::l,t=>argsTm n (i+1) l (t.set i v)
def putAll:List Tmp→List V→Tm→Option Tm
 | [],[],tm=>some tm
 | t::ts,v::vs,tm=>(tm.put (some t) v).bind fun tm=>putAll ts vs tm
 | _,_,_=>none
structure Stage where
 h:Heap
 joined:Nat
 n:Nat
structure Made where
 i:Nat
 id:Nat
 o:O
structure Rd where
 i:Nat
 o:Oper
 tm:Tm
 v:V
structure DS where
 tm:Tm
 stages:List Stage   -- the last one first
 made:List Made
 rds:List Rd
def withMade (pred joined:Nat):List Made→Heap→Heap
 | [],h=>h
 | m::l,h=>bif bit pred m.i && !bit joined m.i then (withMade pred joined l h).set m.id m.o else withMade pred joined l h
def joinMade (pred:Nat):List Made→Nat→Nat
 | [],j=>j
 | m::l,j=>bif bit pred m.i then Nat.lor (joinMade pred l j) (one m.i) else joinMade pred l j
def topStage:List Stage→Option Stage
 | []=>none
 | s::_=>some s
def readAll (made : List Made) (pred lo hi : Nat) (r : Rd) : Nat → List Stage → Bool
  | _, [] => true
  | k, s :: l =>
    (bif Nat.ble lo k && Nat.ble k hi then
      (match rd C (evalT C r.tm) r.o (withMade pred s.joined made s.h) with
       | some v => same v r.v
       | none => false) else true) && readAll made pred lo hi r (k - 1) l
def checkReads (p:Plan) (made:List Made) (stages:List Stage):List Rd→Bool
 | []=>true
 | r::l=>
  readAll C made (p.preds.getD r.i 0) (countIn (p.preds.getD r.i 0) p.acts) (countNotAhead p.preds r.i p.acts) r (stages.length-1) stages && checkReads p made stages l
def setBusy (l:Nat) (h:Heap):Option Heap:=
 match h.get l with
 | some (.loop .ready pend tm ps as bd)=>some (h.set l (.loop .busy pend tm ps as bd))
 | _=>none
def jumpOf:X→Option Code
 | .normal=>none
 | .ret=>some .ret
 | .exit i=>some (.exit i)
 | .goto i=>some (.goto i)
def endRound (x:X) (l:Nat) (h:Heap) (n:Nat):Option (V×Heap×Nat):=
 match h.get l with
 | some (.loop _ _ tm ps as bd)=>some (.s (.bool (jumpOf x).isNone),h.set l (.loop (bif (jumpOf x).isNone then .ready else .done) (jumpOf x) tm ps as bd),n)
 | _=>none
def endLoop (l:Nat) (h:Heap):Option (X×Heap):=
 match h.get l with
 | some (.loop st pend tm ps as bd)=>
  match st with
  | .busy=>none
  | _=>(match pend with
   | none=>some X.normal
   | some .ret=>some .ret
   | some (.exit i)=>some (.exit i)
   | some (.goto i)=>some (.goto i)
   | _=>none).bind fun x=>some (x,h.set l (.loop .exhausted pend tm ps as bd))
 | _=>none
def beginLoop (rnd:Option Nat) (ps:List Tmp) (assign body:Code) (s:St):Option (Nat×St):=
 match rnd with
 | none=>some (s.n+1,{ s with h:=(s.h.set s.n .defd).set (s.n+1) (.loop .ready none s.tm ps assign body),n:=s.n+2,defs:=s.n::s.defs })
 | some l=>match s.h.get l with
  | some (.loop ..)=>some (s.n,{ s with h:=s.h.set s.n (.loop .ready none s.tm ps assign body),n:=s.n+1 })
  | _=>none
mutual
def code (fuel:Nat) (rnd:Option Nat) (c:Code) (s:St):Option (X×St):=
 match fuel with
 | 0=>none
 | fuel+1=>
  match c with
  | .skip | .label _=>some (.normal,s)
  | .region _ ops false=>(seqR fuel ops.toList ops.toList s).bind fun s=>some (.normal,s)
  | .region _ ops true=>
   (planOf C ops.toList).bind fun p=>
   (drawR fuel p ops.toList ops.toList 0 s.n { tm:=s.tm,stages:=[{ h:=s.h,joined:=0,n:=s.n+ops.size }],made:=[],rds:=[] }).bind fun d=>
   (topStage d.stages).bind fun t=>
   bif checkReads C p d.made d.stages d.rds then
    some (.normal,{ tm:=d.tm,h:=withMade (one ops.size-1) t.joined d.made t.h,n:=t.n,defs:=s.defs }) else none
  | .seq a b=>(code fuel rnd a s).bind fun r=>
   match r.1 with
   | .normal=>code fuel rnd b r.2
   | x=>some (x,r.2)
  | .cond c a b=>(evalT C s.tm c).bind fun v=>(asBool v).bind fun t=>bif t then code fuel rnd a s else code fuel rnd b s
  | .block id body=>(code fuel rnd body s).bind fun r=>
   match r.1 with
   | .exit id'=>bif Nat.beq id' id then some (.normal,r.2) else some (.exit id',r.2)
   | x=>some (x,r.2)
  | .loop body=>(code fuel rnd body s).bind fun r=>
   match r.1 with
   | .normal=>code fuel rnd (.loop body) r.2
   | x=>some (x,r.2)
  | .scope body=>(code fuel rnd body s).bind fun r=>
   match r.1 with
   | .goto l=>scope fuel rnd body l r.2
   | x=>some (x,r.2)
  | .exit id=>some (.exit id,s)
  | .goto l=>some (.goto l,s)
  | .ret=>some (.ret,s)
  | .rangeFunc f ps assign body=>(evalT C s.tm f).bind fun v=>
   match v with
   | .func (.func g) first caps=>
    (beginLoop rnd ps.toList assign body s).bind fun q=>
    (call fuel g (first++[.yield q.1]++caps) q.2.h q.2.n).bind fun r=>
    (endLoop q.1 r.2.1).bind fun e=>some (e.1,{ q.2 with h:=e.2,n:=r.2.2 })
   | _=>none
  | .refuse _=>none
def scope (fuel:Nat) (rnd:Option Nat) (body:Code) (l:Nat) (s:St):Option (X×St):=
 match fuel with
 | 0=>none
 | fuel+1=>
  match findLabel body l with
  | none=>some (.goto l,s)
  | some rest=>(code fuel rnd rest s).bind fun r=>
   match r.1 with
   | .goto l=>scope fuel rnd body l r.2
   | x=>some (x,r.2)
def actR (fuel:Nat) (o:Oper) (tm:Tm) (h:Heap) (n:Nat):Option (V×Heap×Nat):=
 match fuel with
 | 0=>none
 | fuel+1=>(act C (evalT C tm) o h n).bind fun r=>
  match r with
  | .val v h n=>some (v,h,n)
  | .enter f args=>call fuel f args h n
  | .round l args=>round fuel l args h n
def seqR (fuel:Nat) (ops:List Oper) (l:List Oper) (s:St):Option St:=
 match fuel with
 | 0=>none
 | fuel+1=>
  match l with
  | []=>some s
  | o::rest=>
   bif wantedT ops s.tm o then
    match kindOf C o with
    | .quiet | .read=>(rd C (evalT C s.tm) o s.h).bind fun v=>(s.tm.put o.dst v).bind fun tm=>seqR fuel ops rest { s with tm }
    | .make=>(mk C (evalT C s.tm) o).bind fun m=>(s.tm.put o.dst (m.2.val s.n)).bind fun tm=>seqR fuel ops rest { s with tm,h:=s.h.set s.n m.1,n:=s.n+1 }
    | .act=>(actR fuel o s.tm s.h s.n).bind fun r=>(s.tm.put o.dst r.1).bind fun tm=>seqR fuel ops rest { s with tm,h:=r.2.1,n:=r.2.2 }
   else (s.tm.put o.dst undefV).bind fun tm=>seqR fuel ops rest { s with tm }
def drawR (fuel:Nat) (p:Plan) (ops:List Oper) (l:List Oper) (i n0:Nat) (d:DS):Option DS:=
 match fuel with
 | 0=>none
 | fuel+1=>
  match l with
  | []=>some d
  | o::rest=>
   bif wantedT ops d.tm o then
    match kindOf C o with
    | .quiet=>(rd C (evalT C d.tm) o .leaf).bind fun v=>(d.tm.put o.dst v).bind fun tm=>drawR fuel p ops rest (i+1) n0 { d with tm }
    | .read=>(topStage d.stages).bind fun t=>
     (rd C (evalT C d.tm) o (withMade (p.preds.getD i 0) t.joined d.made t.h)).bind fun v=>(d.tm.put o.dst v).bind fun tm=>
      drawR fuel p ops rest (i+1) n0 { d with tm,rds:={ i,o,tm:=d.tm,v }::d.rds }
    | .make=>(mk C (evalT C d.tm) o).bind fun m=>(d.tm.put o.dst (m.2.val (n0+i))).bind fun tm=>
      drawR fuel p ops rest (i+1) n0 { d with tm,made:={ i,id:=n0+i,o:=m.1 }::d.made }
    | .act=>(topStage d.stages).bind fun t=>
     (actR fuel o d.tm (withMade (p.preds.getD i 0) t.joined d.made t.h) t.n).bind fun r=>(d.tm.put o.dst r.1).bind fun tm=>
      drawR fuel p ops rest (i+1) n0 { d with tm,stages:={ h:=r.2.1,joined:=joinMade (p.preds.getD i 0) d.made t.joined,n:=r.2.2 }::d.stages }
   else
    match kindOf C o with
    | .act=>(topStage d.stages).bind fun t=>(d.tm.put o.dst undefV).bind fun tm=>drawR fuel p ops rest (i+1) n0 { d with tm,stages:=t::d.stages }
    | _=>(d.tm.put o.dst undefV).bind fun tm=>drawR fuel p ops rest (i+1) n0 { d with tm }
def round (fuel:Nat) (l:Nat) (args:List V) (h:Heap) (n:Nat):Option (V×Heap×Nat):=
 match fuel with
 | 0=>none
 | fuel+1=>
  match h.get l with
  | some (.loop .ready pend tm ps as bd)=>
   (putAll ps args tm).bind fun tm1=>
   (code fuel (some l) as { tm:=tm1,h,n,defs:=[] }).bind fun r=>
   match r.1 with
   | .normal=>(setBusy l r.2.h).bind fun h1=>(code fuel (some l) bd { r.2 with h:=h1 }).bind fun q=>endRound q.1 l q.2.h q.2.n
   | _=>none
  | _=>none
def call (fuel:Nat) (f:FuncId) (args:List V) (h:Heap) (n:Nat):Option (V×Heap×Nat):=
 match fuel with
 | 0=>none
 | fuel+1=>(C.F.get f).bind fun fn=>
  match fn.body with
  | none=>none
  | some c=>
   bif Nat.ble args.length fn.ntmps then
    (code fuel none c { tm:=argsTm fn.ntmps 0 args .leaf,h,n,defs:=[] }).bind fun r=>
    match r.1 with
    | .normal | .ret=>(dropDefs r.2.defs r.2.h).bind fun h=>(resultsOf C r.2.tm h fn.results.toList).bind fun vs=>some (oneOf vs,h,r.2.n)
    | _=>none
   else none
end
def answers (f:FuncId):Option (V×Nat):=(call C 1000000000 f [] .leaf C.ng).bind fun r=>some (r.1,r.2.2)
end Go.Ev
end
