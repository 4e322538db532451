import Derived.Test.YtaigdhieijndgaaGreatEQ9
import Derived.Test.YtaigdhieijndgaaGreatEQ12
import Derived.Carry
import Derived.Deep.Slices
import Derived.SizedLaws
section
namespace Go.Ev
open Go.ChangeShapes Go.WideShapes Go.ChangeAt Go.RowKit Go.WideElems
def Ros (h:Heap):Prop:=∀ b o,h.get b=some o→o.own=false
theorem Evo.belowRo {ρ ρ':Ren} {h h':Heap} {n n':Nat} {w w':World} (hr:Ros h) (e:Evo ρ h n w ρ' h' n' w'):Below w.heap.size w w':=
 ⟨e.side.os,e.side.tape,e.side.output,e.size,fun k hk=>e.frame k hk fun b o x h ho=>by rw [hr b o h] at ho; cases ho⟩
theorem callsBelow {C:Ctx} {f:FuncId} {vs:List V} {xs:List Value} {ρ:Ren} {h:Heap} {n:Nat} {w:World} {r:Value} (hk:CallK C f vs h n fun v _ _=>v=.s r)
  (h1:VRels ρ vs xs) (h2:HRel ρ h w) (h3:Fr ρ n) (h4:GRel C ρ) (h5:Ros h):Calls C.P f xs.toArray w fun e w'=>e=.returned r∧Below w.heap.size w w':=by
 obtain ⟨_,k⟩:=hk.run ρ w xs h1 h2 h3 h4
 refine (callsIn_wide.1 (k 0)).mono ?_
 rintro e w' ⟨v,h',n',rfl,ρ',y,rfl,ev,hy⟩
 cases hy
 exact ⟨rfl,ev.belowRo h5⟩
theorem HRel.below {ρ:Ren} {h:Heap} {w w':World} (H:HRel ρ h w) (hb:Below w.heap.size w w'):HRel ρ h w':=by
 refine ⟨fun b o hg=>?_,H.inj⟩
 obtain ⟨c,sh,ex,x,q1,q2,q3⟩:=H.obj b o hg
 exact ⟨c,sh,ex,x,q1,by rw [hb.block c (Array.getElem?_eq_some_iff.1 q2).1]; exact q2,q3⟩
theorem Evo.ofBelow {ρ:Ren} {h:Heap} {n:Nat} {w w':World} (H:HRel ρ h w) (hb:Below w.heap.size w w'):Evo ρ h n w ρ h n w':=
 ⟨Ren.le_refl ρ,fun b x h1 h2=>(by rw [h1] at h2; cases h2),Nat.le_refl _,H.below hb,hb.size,fun c hc _=>hb.block c hc,fun b o x h1 ho h2=>.inl ⟨b,o,x,h1,ho,h2,rfl⟩,fun _ _ h _=>h,⟨hb.tape,hb.os,hb.output⟩⟩
theorem closedK {P:Program} (hf:typesOk (Ctx.of P 0)=true) (hn:namesOk P=true) (hmix:P.follows .mixedOrders=true) {f:FuncId}
  (ha:saysTrue (answers (Ctx.of P 0) f)=true) (h:Heap) (n:Nat):CallK (Ctx.of P 0) f [] h n fun v h' n'=>v=.s (.bool true)∧h'=h∧n'=n:=by
 refine ⟨?_⟩
 intro ρ w xs h1 h2 h3 h4
 cases h1
 have hC:=Ctx.of_ok P 0 hf hn
 cases hA:answers (Ctx.of P 0) f with
 | none=>rw [hA] at ha; simp [saysTrue] at ha
 | some r=>
  obtain ⟨v,m⟩:=r
  rw [hA] at ha
  unfold answers at hA
  replace hA:=of_bind hA
  obtain ⟨r,hr,hA⟩:=hA
  have hs:=(sound hC hmix 1000000000).call f [] .leaf 0 r hr
  have hρ:Fr (fun _=>none) 0:=fun _ _=>rfl
  obtain ⟨k1,k2⟩:=hs (fun _=>none) w [] .nil (HRel.leaf _ w) hρ (fun g hg=>by simp [Ctx.of] at hg)
  refine ⟨k1,fun N=>(k2 N).mono ?_⟩
  rintro e w' ⟨ρ',y,rfl,ev,hy⟩
  have e1:r.1=v:=by simpa using congrArg (Option.map (·.1)) hA
  have hb:=ev.below
  rw [e1] at hy
  unfold saysTrue at ha
  split at ha
  ·rename_i e
   cases e
   subst ha
   cases hy
   exact ⟨_,h,n,⟨rfl,rfl,rfl⟩,ρ,_,rfl,Evo.ofBelow h2 hb,.s _⟩
  ·cases ha
def Ren.put (ρ:Ren) (n:Nat) (x:Nat×Nat×Nat):Ren:=fun b=>if b=n then some x else ρ b
theorem Ren.le_put {ρ:Ren} {n:Nat} {x:Nat×Nat×Nat} (hf:ρ n=none):ρ.le (ρ.put n x):=by
 intro b y hb
 unfold Ren.put
 split
 ·rename_i e; rw [e,hf] at hb; cases hb
 ·exact hb
structure Arg (ρ:Ren) (h:Heap) (n:Nat) (w:World):Prop where
 rel:HRel ρ h w
 fr:Fr ρ n
 ros:Ros h
theorem Arg.nil (w:World):Arg (fun _=>none) .leaf 0 w:=⟨HRel.leaf _ w,fun _ _=>rfl,fun b o h=>by simp [Tree.get] at h⟩
theorem Arg.lt {ρ:Ren} {h:Heap} {n:Nat} {w:World} (A:Arg ρ h n w) {b:Nat} {o:O} (hb:h.get b=some o):b<n:=by
 obtain ⟨c,sh,ex,x,q1,_⟩:=A.rel.obj b o hb
 apply Nat.lt_of_not_le
 intro hle
 rw [A.fr b hle] at q1
 cases q1
theorem Arg.add {ρ:Ren} {h:Heap} {n:Nat} {w:World} (A:Arg ρ h n w) {c sh:Nat} {vs:List V} {es:Nat} {arr:Array Value} {t:TypeId} {fz:Nat×Nat} (hc:w.heap[c]? = some (.cells arr t fz))
  (pre mid post:List Value) (ha:arr.toList=pre++mid++post) (hp:pre.length=sh) (hm:VRels ρ vs mid) (ho:∀ x∈mid,x.oneCell'=true) :
  Arg (ρ.put n (c,sh,0)) (h.set n (.ro (.lst vs) es)) (n+1) w:=by
 have hle:ρ.le (ρ.put n (c,sh,0)):=Ren.le_put (A.fr n (Nat.le_refl _))
 refine ⟨⟨?_,?_⟩,?_,?_⟩
 ·intro b o hb
  rw [Tree.get_set] at hb
  split at hb
  ·rename_i e
   subst e
   cases hb
   exact ⟨c,sh,0,_,by simp [Ren.put],hc,.ro trivial pre mid post ha hp (VRels.mono hle hm) ho⟩
  ·obtain ⟨c,sh,ex,x,q1,q2,q3⟩:=A.rel.obj b o hb
   exact ⟨c,sh,ex,x,hle _ _ q1,q2,q3.mono hle⟩
 ·intro b b' o o' x x' hb hb' ho
  rw [Tree.get_set] at hb
  split at hb
  ·cases hb; cases ho
  ·rw [A.ros b o hb] at ho; cases ho
 ·intro b hb
  have:¬ b=n:=by omega
  simp only [Ren.put,if_neg this]
  exact A.fr b (by omega)
 ·intro b o hb
  rw [Tree.get_set] at hb
  split at hb
  ·cases hb; rfl
  ·exact A.ros b o hb
theorem VRels_s {ρ:Ren} {α:Type} (f:α→Value):∀ l:List α,VRels ρ (l.map fun x=>.s (f x)) (l.map f)
 | []=>.nil
 | _::l=>.cons (.s _) (VRels_s f l)
theorem trodAll_below {H:Type} {enc:TypeId×Value→H} {P:Program} (hl:laidOutB P=true) {W W':World} (hb:Below W.heap.size W W') :
  ∀ {ts:List TypeId} {vs:List Value} {ds:List (DataW H)} {ps:List MemPlace},(∀ t∈ts,P.readableRec t=true∧t<P.types.size)→(∀ x∈ps,x.block<W.heap.size) →
   DataW.TrodAll enc P W 0 (fun _=>true) true ts vs ds ps→DataW.TrodAll enc P W' 0 (fun b=>decide (b<W.heap.size)) true ts vs ds ps
 | [],[],[],_,_,_,h=>h
 | [],_::_,_,_,_,_,h=>h.elim
 | [],[],_::_,_,_,_,h=>h.elim
 | _::_,[],_,_,_,_,h=>h.elim
 | _::_,_::_,[],_,_,_,h=>h.elim
 | t::ts,v::vs,d::ds,ps,hr,hlt,h=>by
  obtain ⟨p,q,h1,h2,rfl⟩:=h
  have ht:=hr t (by simp)
  exact ⟨p,q,Below.trod hl ht.1 ht.2 h1 hb (fun x hx=>hlt x (by simp [hx])),trodAll_below hl hb (fun t h=>hr t (by simp [h])) (fun x hx=>hlt x (by simp [hx])) h2,rfl⟩
theorem post_true {H:Type} {enc:TypeId×Value→H} {P:Program} {f:Func} {s:ChangeSpec} {apart fresh handsOn:Bool} {W W':World} {args:Array Value} {ds:List (DataW H)} {ps:List MemPlace} {tb:TypeId}
  (hl:laidOutB P=true) (hr:∀ t∈f.params.toList,P.readableRec t=true∧t<P.types.size) (hv:s.vars=[]) (hb:P.underlying tb=some .bool) (ht:f.resultTypes=#[tb])
  (hW:DataW.Whole enc P f.params.toList s.vars apart W args.toList ds [] ps) (hA:DataW.TrodAll enc P W 0 (fun _=>true) true f.params.toList args.toList ds ps)
  (hf:s.fn H (ds++[])={ results:=[.lit (.bool true)],args:=ds }) (hk:Below W.heap.size W W'):s.post enc P f apart fresh handsOn false W args (.bool true) W':=by
 refine ⟨ds,[],ps,[],ps,[],hW,?_,?_,?_,hk.frame _,fun h=>by cases h⟩
 ·rw [hf,ht]
  exact (trodAll_cons_mk (shut_bool hb _) trodAll_mk0)
 ·rw [hf]
  exact trodAll_below hl hk hr (fun x hx=>hW.lt x hx) hA
 ·rw [hf,hv]
  rfl
end Go.Ev
end
section
namespace Go.Ev
def answersOne (C:Ctx) (f:FuncId) (args:List Value):Option Value:=(call C 1000000000 f (args.map V.s) .leaf C.ng).bind fun r=>match r.1 with | .s x=>some x | _=>none
theorem VRels_sRev {ρ:Ren}:∀ {l xs:List Value},VRels ρ (l.map V.s) xs→xs=l
 | [],_,h=>by cases h; rfl
 | x::l,_,h=>by
  cases h with
  | cons h1 h2=>cases h1; rw [VRels_sRev h2]
theorem closedOne {P:Program} (hf:typesOk (Ctx.of P 0)=true) (hn:namesOk P=true) (hmix:P.follows .mixedOrders=true) {f:FuncId} {args:List Value} {x:Value}
  (ha:answersOne (Ctx.of P 0) f args=some x) (h:Heap) (n:Nat):CallK (Ctx.of P 0) f (args.map V.s) h n fun v h' n'=>v=.s x∧h'=h∧n'=n:=by
 refine ⟨?_⟩
 intro ρ w ys h1 h2 h3 h4
 have hys:=VRels_sRev h1
 subst hys
 have hC:=Ctx.of_ok P 0 hf hn
 obtain ⟨r,hr,ha⟩:=of_bind ha
 have hs:=(sound hC hmix 1000000000).call f (ys.map V.s) .leaf 0 r hr
 have hρ:Fr (fun _=>none) 0:=fun _ _=>rfl
 obtain ⟨k1,k2⟩:=hs (fun _=>none) w ys (by have:=VRels_s (ρ:=fun _=>none) (fun x:Value=>x) ys; simpa using this) (HRel.leaf _ w) hρ (fun g hg=>by simp [Ctx.of] at hg)
 refine ⟨k1,fun N=>(k2 N).mono ?_⟩
 rintro e w' ⟨ρ',y,rfl,ev,hy⟩
 have hb:=ev.below
 obtain ⟨v,hh,m⟩:=r
 simp only at ha hy
 cases v <;> simp only at ha
 case s z=>
  cases ha
  cases hy
  exact ⟨_,h,n,⟨rfl,rfl,rfl⟩,ρ,_,rfl,Evo.ofBelow h2 hb,.s _⟩
 all_goals cases ha
end Go.Ev
end
section
namespace Go.Ev
open Go.ChangeShapes Go.WideShapes Go.ChangeAt Go.RowKit Go.WideElems Go.Deep
inductive Desc (P:Program) (hp:Heap):TypeId→List V→Prop
 | int {t:TypeId} {k:IntKind} {x:Int} (ht:P.underlying t=some (.int k)) (h:(Lit.int k x).wf=true):Desc P hp t [.s (.int k x)]
 | bool {t:TypeId} {b:Bool} (ht:P.underlying t=some .bool):Desc P hp t [.s (.bool b)]
 | string {t:TypeId} {s:ByteArray} (ht:P.underlying t=some .string) (h:s.size≤maxLen):Desc P hp t [.s (.string s)]
 | nil {t e:TypeId} (ht:P.underlying t=some (.slice e)):Desc P hp t [.s (.slice none 0 0)]
 | void {t e:TypeId} {a:Addr} (ht:P.underlying t=some (.slice e)):Desc P hp t [.s (.slice (some a) 0 0)]
 | slice {t e:TypeId} {b len c:Nat} {L:List V} (ht:P.underlying t=some (.slice e)) (hg:hp.get b=some (.ro (.lst L) (P.cellsOf e))) (hl:L.length=len*P.cellsOf e) (hc:len≤c) (hb:len*P.bytesOf e≤reachBytes)
   (he:∀ i,i<len→Desc P hp e ((L.drop (i*P.cellsOf e)).take (P.cellsOf e))):Desc P hp t [.slice b 0 len c false]
 | struct {t:TypeId} {fs:Array Field} {us:List V} (ht:P.underlying t=some (.struct fs)) (hl:us.length=P.cellsOf t)
   (hf:∀ (i:Nat) (f:Field),fs[i]? = some f→Desc P hp f.type ((us.drop f.offset).take (P.cellsOf f.type))):Desc P hp t us
 | array {t e:TypeId} {n:Nat} {us:List V} (ht:P.underlying t=some (.array n e)) (hl:us.length=P.cellsOf t)
   (he:∀ i,i<n→Desc P hp e ((us.drop (i*P.cellsOf e)).take (P.cellsOf e))):Desc P hp t us
theorem Desc.of {P:Program} {hp hp':Heap} (h:∀ b o,hp.get b=some o→hp'.get b=some o) {t:TypeId} {us:List V} (D:Desc P hp t us):Desc P hp' t us:=by
 induction D with
 | int ht h=>exact .int ht h
 | bool ht=>exact .bool ht
 | string ht h=>exact .string ht h
 | nil ht=>exact .nil ht
 | void ht=>exact .void ht
 | slice ht hg hl hc hb _ ih=>exact .slice ht (h _ _ hg) hl hc hb ih
 | struct ht hl _ ih=>exact .struct ht hl ih
 | array ht hl _ ih=>exact .array ht hl ih
def Opens (P:Program) (W:World) (t:TypeId) (cs:List Value):Prop:=∀ {ρ:Ren} {hp:Heap} {n:Nat},Arg ρ hp n W →
 ∃ ρ' hp' n' us,Arg ρ' hp' n' W∧ρ.le ρ'∧n≤n'∧(∀ b,b<n→hp'.get b=hp.get b)∧VRels ρ' us cs∧(∀ x∈cs,x.oneCell'=true)∧Desc P hp' t us
theorem VRels_append {ρ:Ren}:∀ {a:List V} {x:List Value} {b:List V} {y:List Value},VRels ρ a x→VRels ρ b y→VRels ρ (a++b) (x++y)
 | _,_,_,_,.nil,h=>h
 | _,_,_,_,.cons h1 h2,h=>.cons h1 (VRels_append h2 h)
theorem Arg.sub {ρ:Ren} {h h':Heap} {n:Nat} {w:World} (A:Arg ρ h n w) (he:∀ b,b<n→h'.get b=h.get b):∀ b o,h.get b=some o→h'.get b=some o:=
 fun b o hb=>by rw [he b (A.lt hb)]; exact hb
def offL (P:Program) (l:List (TypeId×List Value)) (i:Nat):Nat:=((l.take i).map fun p=>P.cellsOf p.1).sum
theorem opens_seq {P:Program} {W:World}:∀ (l:List (TypeId×List Value)),(∀ p∈l,Opens P W p.1 p.2∧p.2.length=P.cellsOf p.1)→∀ {ρ:Ren} {hp:Heap} {n:Nat},Arg ρ hp n W →
  ∃ ρ' hp' n' us,Arg ρ' hp' n' W∧ρ.le ρ'∧n≤n'∧(∀ b,b<n→hp'.get b=hp.get b)∧VRels ρ' us (l.map (·.2)).flatten∧(∀ x∈(l.map (·.2)).flatten,x.oneCell'=true) ∧
   ∀ i (hi:i<l.length),Desc P hp' l[i].1 ((us.drop (offL P l i)).take (P.cellsOf l[i].1))
 | [],_,ρ,hp,n,A=>⟨ρ,hp,n,[],A,Ren.le_refl _,Nat.le_refl _,fun _ _=>rfl,.nil,by simp,fun i hi=>by simp at hi⟩
 | p::l,h,ρ,hp,n,A=>by
  obtain ⟨h0,hl0⟩:=h p (by simp)
  obtain ⟨ρ1,hp1,n1,us1,A1,le1,nn1,he1,r1,o1,D1⟩:=h0 A
  obtain ⟨ρ2,hp2,n2,us2,A2,le2,nn2,he2,r2,o2,D2⟩:=opens_seq l (fun q hq=>h q (by simp [hq])) A1
  have hus:us1.length=P.cellsOf p.1:=by rw [r1.length,hl0]
  refine ⟨ρ2,hp2,n2,us1++us2,A2,Ren.le_trans le1 le2,by omega,fun b hb=>by rw [he2 b (by omega),he1 b hb],?_,?_,?_⟩
  ·rw [List.map_cons,List.flatten_cons]
   exact VRels_append (VRels.mono le2 r1) r2
  ·rw [List.map_cons,List.flatten_cons]
   intro x hx
   rcases List.mem_append.1 hx with hx | hx
   ·exact o1 x hx
   ·exact o2 x hx
  ·intro i hi
   cases i with
   | zero=>
    have:(((us1++us2).drop (offL P (p::l) 0)).take (P.cellsOf p.1))=us1:=by
     simp [offL,← hus]
    show Desc P hp2 p.1 (((us1++us2).drop (offL P (p::l) 0)).take (P.cellsOf p.1))
    rw [this]
    exact D1.of (A1.sub he2)
   | succ i=>
    have hi':i<l.length:=by simpa using hi
    have:=D2 i hi'
    have e:offL P (p::l) (i+1)=us1.length+offL P l i:=by simp [offL,hus]
    show Desc P hp2 l[i].1 (((us1++us2).drop (offL P (p::l) (i+1))).take (P.cellsOf l[i].1))
    rw [e,List.drop_append,List.drop_eq_nil_of_le (by omega),Nat.add_sub_cancel_left]
    simpa using this
def fieldsAt (P:Program):Nat→List Field→Option Nat
 | s,[]=>some s
 | s,f::fs=>bif Nat.beq f.offset s then fieldsAt P (s+P.cellsOf f.type) fs else none
def plainT (P:Program):Nat→TypeId→Bool
 | 0,_=>false
 | d+1,t=>match P.underlying t with
  | some (.int _)=>Nat.beq (P.cellsOf t) 1
  | some .bool=>Nat.beq (P.cellsOf t) 1
  | some .string=>Nat.beq (P.cellsOf t) 1
  | some (.slice e)=>Nat.beq (P.cellsOf t) 1 && (Nat.blt 0 (P.cellsOf e) && plainT P d e)
  | some (.struct fs)=>(match fieldsAt P 0 fs.toList with | some s=>Nat.beq s (P.cellsOf t) | none=>false) && fs.toList.all fun f=>plainT P d f.type
  | some (.array n e)=>Nat.beq (n*P.cellsOf e) (P.cellsOf t) && plainT P d e
  | _=>false
theorem fieldsAt_off {P:Program}:∀ {fs:List Field} {s e:Nat},fieldsAt P s fs=some e→∀ (i:Nat) (f:Field),fs[i]? = some f→f.offset=s+((fs.take i).map fun f=>P.cellsOf f.type).sum
 | [],_,_,_,i,f,h=>by simp at h
 | g::fs,s,e,h,i,f,hf=>by
  unfold fieldsAt at h
  cases hb:Nat.beq g.offset s with
  | false=>rw [hb] at h; cases h
  | true=>
   rw [hb] at h
   have hg:g.offset=s:=by simpa using hb
   cases i with
   | zero=>cases hf; simpa using hg
   | succ i=>
    have:=fieldsAt_off (fs:=fs) h i f (by simpa using hf)
    rw [this]
    simp
    omega
theorem fieldsAt_sum {P:Program}:∀ {fs:List Field} {s e:Nat},fieldsAt P s fs=some e→e=s+(fs.map fun f=>P.cellsOf f.type).sum
 | [],s,e,h=>by cases h; simp
 | g::fs,s,e,h=>by
  unfold fieldsAt at h
  cases hb:Nat.beq g.offset s with
  | false=>rw [hb] at h; cases h
  | true=>
   rw [hb] at h
   have:=fieldsAt_sum (fs:=fs) h
   rw [this]; simp; omega
theorem pieces:∀ (ks:List Nat) (cs:List Value),cs.length=ks.sum→∃ css:List (List Value),css.length=ks.length∧css.flatten=cs∧∀ i (hi:i<ks.length),css[i]? = some ((cs.drop ((ks.take i).sum)).take ks[i])
 | [],cs,h=>⟨[],rfl,by simpa using (List.length_eq_zero_iff.1 (by simpa using h)).symm,fun i hi=>by simp at hi⟩
 | k::ks,cs,h=>by
  obtain ⟨css,h1,h2,h3⟩:=pieces ks (cs.drop k) (by simp at h ⊢; omega)
  refine ⟨cs.take k::css,by simp [h1],by simp [h2],fun i hi=>?_⟩
  cases i with
  | zero=>simp
  | succ i=>
   have:=h3 i (by simpa using hi)
   simp only [List.getElem?_cons_succ,this,List.take_succ_cons,List.sum_cons,List.getElem_cons_succ,List.drop_drop]
theorem rows_flat (cs:List Value) (K:Nat):∀ k:Nat,((List.range k).map fun i=>(cs.drop (i*K)).take K).flatten=cs.take (k*K)
 | 0=>by simp
 | k+1=>by
  rw [List.range_succ,List.map_append,List.flatten_append,rows_flat cs K k,Nat.add_mul,List.take_add]
  simp
theorem offL_const {P:Program} {e:TypeId} {k:Nat} (g:Nat→List Value) {i:Nat} (hi:i≤k):offL P ((List.range k).map fun i=>(e,g i)) i=i*P.cellsOf e:=by
 unfold offL
 rw [← List.map_take,List.map_map,List.take_range,Nat.min_eq_left hi]
 clear hi
 induction i with
 | zero=>simp
 | succ i ih=>rw [List.range_succ,List.map_append,List.sum_append,ih,Nat.add_mul]; simp
theorem opens_leaf {P:Program} {W:World} {t:TypeId} {x:Value} (h1:x.oneCell'=true) (hD:∀ hp,Desc P hp t [.s x]):Opens P W t [x]:=by
 intro ρ hp n A
 exact ⟨ρ,hp,n,[.s x],A,Ren.le_refl _,Nat.le_refl _,fun _ _=>rfl,.cons (.s _) .nil,by simpa using h1,hD hp⟩
theorem weightsAll_mem {H:Type} {P:Program} {e:TypeId}:∀ {l:List (DataW H)} {d:DataW H},d∈l→∀ n∈d.weights P e,n∈DataW.weightsAll P e l
 | a::l,d,hd,n,hn=>by
  simp only [DataW.weightsAll,List.mem_append]
  rcases List.mem_cons.1 hd with rfl | hd
  ·exact .inl hn
  ·exact .inr (weightsAll_mem hd n hn)
theorem open_data {H:Type} {enc:TypeId×Value→H} {P:Program} {W:World}:∀ (fuel d:Nat) (t:TypeId) (cs:List Value) (x:DataW H×List MemPlace),
  plainT P d t=true→DataW.trod enc P W 0 (fun _=>true) true fuel t cs=some x→(∀ w∈x.1.weights P t,w≤reachBytes)→Opens P W t cs∧cs.length=P.cellsOf t
 | 0,_,_,_,_,_,h,_=>by simp [DataW.trod] at h
 | fuel+1,0,_,_,_,hp,_,_=>by simp [plainT] at hp
 | fuel+1,d+1,t,cs,x,hp,h,hwt=>by
  unfold plainT at hp
  split at hp
  ·rename_i k ht
   obtain ⟨y,rfl,_,hw⟩:=DataW.trod_int ht h
   exact ⟨opens_leaf rfl fun _=>.int ht hw,by simpa using (Nat.eq_of_beq_eq_true hp).symm⟩
  ·rename_i ht
   obtain ⟨y,rfl,_⟩:=DataW.trod_bool ht h
   exact ⟨opens_leaf rfl fun _=>.bool ht,by simpa using (Nat.eq_of_beq_eq_true hp).symm⟩
  ·rename_i ht
   obtain ⟨y,rfl,_,hw⟩:=DataW.trod_string ht h
   exact ⟨opens_leaf rfl fun _=>.string ht hw,by simpa using (Nat.eq_of_beq_eq_true hp).symm⟩
  ·rename_i e ht
   simp only [Bool.and_eq_true] at hp
   obtain ⟨hp1,hp2,hp3⟩:=hp
   have hK:0<P.cellsOf e:=by simpa using hp2
   have hlen1:∀ v:Value,[v].length=P.cellsOf t:=fun v=>by simpa using (Nat.eq_of_beq_eq_true hp1).symm
   rcases DataW.trod_slice ht h with ⟨rfl,_⟩ | ⟨a,len,cap,elems,rest,n2,hn2,rfl,hx,_,hl,_,hel,hE,hR,_⟩
   ·exact ⟨opens_leaf rfl fun _=>.nil ht,hlen1 _⟩
   ·have hn2':n2=fuel:=by omega
    subst hn2'
    refine ⟨?_,hlen1 _⟩
    subst hx
    have hw1:(elems.length+rest.length)*P.bytesOf e≤reachBytes:=hwt _ (by simp [DataW.weights,ht])
    have hwe:∀ y∈elems++rest,∀ w∈y.1.weights P e,w≤reachBytes:=by
     intro y hy w hw
     refine hwt w ?_
     simp only [DataW.weights,ht,List.mem_cons,List.mem_append]
     rcases List.mem_append.1 hy with hy | hy
     ·exact .inr (.inl (weightsAll_mem (List.mem_map_of_mem hy) w hw))
     ·exact .inr (.inr (weightsAll_mem (List.mem_map_of_mem hy) w hw))
    intro ρ hp0 n A
    by_cases hm0:cap=0
    ·subst hm0
     have:len=0:=by omega
     subst this
     exact opens_leaf rfl (fun _=>.void ht) A
    ·obtain ⟨hR1,hR2⟩:=hR rfl
     have each:∀ i,i<cap→∃ cs':List Value,(Opens P W e cs'∧cs'.length=P.cellsOf e)∧∀ j,j<P.cellsOf e→W.cell? ((a.add (i*P.cellsOf e)).add j)=cs'[j]?:=by
      intro i hi
      have key:∃ x',x'∈elems++rest∧(W.cells? 0 (a.add (i*P.cellsOf e)) (P.cellsOf e)).bind (DataW.trod enc P W 0 (fun _=>true) true n2 e)=some x':=by
       by_cases hil:i<len
       ·rw [hE i hil]; exact ⟨elems[i],List.mem_append_left _ (List.getElem_mem _),List.getElem?_eq_getElem (by omega)⟩
       ·have:=hR2 (i-len) (by omega)
        rw [show len+(i-len)=i by omega] at this
        rw [this]; exact ⟨rest[i-len],List.mem_append_right _ (List.getElem_mem _),List.getElem?_eq_getElem (by omega)⟩
      obtain ⟨x',hxm,hx'⟩:=key
      obtain ⟨cs',q1,q2⟩:=Option.bind_eq_some_iff.1 hx'
      obtain ⟨_,q3,q4⟩:=World.cells?_some q1
      exact ⟨cs',open_data n2 d e cs' x' hp3 q2 (hwe x' hxm),q4⟩
     obtain ⟨g,hg⟩:=choose_lt each
     obtain ⟨ab,ao,asp⟩:=a
     have h00:=(hg 0 (by omega)).2 0 hK
     have hg0:=(hg 0 (by omega)).1.2
     rw [List.getElem?_eq_getElem (by omega)] at h00
     have ha0:((⟨ab,ao,asp⟩:Addr).add (0*P.cellsOf e)).add 0=⟨ab,ao,asp⟩:=by simp [Addr.add]
     rw [ha0] at h00
     obtain ⟨arr,row,fz,harr,hsp⟩:∃ arr row fz,W.heap[ab]? = some (.cells arr row fz)∧asp=none:=by
      unfold World.cell? at h00
      simp only at h00
      split at h00
      ·rename_i c q f hW
       split at h00
       ·cases h00
       ·rename_i hs
        exact ⟨_,_,_,hW,by cases asp with | none=>rfl | some _=>simp at hs⟩
      ·cases h00
     subst hsp
     have hcell:∀ i,i<cap→∀ j,j<P.cellsOf e→arr[ao+(i*P.cellsOf e+j)]? = (g i)[j]?:=by
      intro i hi j hj
      rw [← (hg i hi).2 j hj]
      have ea:(((⟨ab,ao,none⟩:Addr).add (i*P.cellsOf e)).add j)=⟨ab,ao+(i*P.cellsOf e+j),none⟩:=by
       unfold Addr.add
       by_cases h1:i*P.cellsOf e=0 <;> by_cases h2:j=0 <;> simp [h1,h2]
       omega
      rw [ea]
      unfold World.cell?
      simp only [harr,Option.isSome_none]
      rfl
     have hfl:∀ N,N≤len→(((List.range N).map g).flatten).length=N*P.cellsOf e:=by
      intro N
      induction N with
      | zero=>intro _; simp
      | succ N ih=>
       intro hN
       rw [List.range_succ,List.map_append,List.flatten_append,List.length_append,ih (by omega)]
       simp [(hg N (by omega)).1.2,Nat.add_mul]
     have hget:∀ N,N≤len→∀ q,q<N*P.cellsOf e→arr[ao+q]? = (((List.range N).map g).flatten)[q]?:=by
      intro N
      induction N with
      | zero=>intro _ q hq; simp at hq
      | succ N ih=>
       intro hN q hq
       rw [List.range_succ,List.map_append,List.flatten_append]
       have hlN:=hfl N (by omega)
       by_cases hq':q<N*P.cellsOf e
       ·rw [List.getElem?_append_left (by omega)]
        exact ih (by omega) q hq'
       ·rw [List.getElem?_append_right (by omega),hlN]
        rw [Nat.add_mul] at hq
        have:=hcell N (by omega) (q-N*P.cellsOf e) (by omega)
        rw [show N*P.cellsOf e+(q-N*P.cellsOf e)=q by omega] at this
        rw [this]
        simp
     have hsz:ao+len*P.cellsOf e≤arr.toList.length:=by
      by_cases h0:len=0
      ·subst h0
       have:=hcell 0 (by omega) 0 hK
       rw [List.getElem?_eq_getElem (by omega)] at this
       have:=(Array.getElem?_eq_some_iff.1 this).1
       simp; omega
      ·have hpos:0<len*P.cellsOf e:=Nat.mul_pos (by omega) hK
       have:=hget len (Nat.le_refl _) (len*P.cellsOf e-1) (by omega)
       rw [List.getElem?_eq_getElem (by rw [hfl len (Nat.le_refl _)]; omega)] at this
       have:=(Array.getElem?_eq_some_iff.1 this).1
       simp; omega
     have hmid:(arr.toList.drop ao).take (len*P.cellsOf e)=((List.range len).map g).flatten:=by
      apply List.ext_getElem?
      intro i
      rw [List.getElem?_take,List.getElem?_drop]
      by_cases hi:i<len*P.cellsOf e
      ·rw [if_pos hi,Array.getElem?_toList]
       exact hget len (Nat.le_refl _) i hi
      ·rw [if_neg hi,List.getElem?_eq_none (by rw [hfl len (Nat.le_refl _)]; omega)]
     have hz:∀ p∈(List.range len).map (fun i=>(e,g i)),Opens P W p.1 p.2∧p.2.length=P.cellsOf p.1:=by
      intro p hpz
      obtain ⟨i,hi,rfl⟩:=List.mem_map.1 hpz
      have hi':=List.mem_range.1 hi
      exact (hg i (by omega)).1
     obtain ⟨ρ1,hp1',n1,L,A1,le1,nn1,he1,r1,o1,D1⟩:=opens_seq _ hz A
     have hmap:((List.range len).map (fun i=>(e,g i))).map (·.2)=(List.range len).map g:=by rw [List.map_map]; rfl
     rw [hmap] at r1 o1
     have hLl:L.length=len*P.cellsOf e:=by rw [r1.length,hfl len (Nat.le_refl _)]
     refine ⟨ρ1.put n1 (ab,ao,0),hp1'.set n1 (.ro (.lst L) (P.cellsOf e)),n1+1,[.slice n1 0 len cap false],
      A1.add harr (arr.toList.take ao) (((List.range len).map g).flatten) (arr.toList.drop (ao+len*P.cellsOf e)) ?_ (by simp at hsz ⊢; omega) r1 o1,Ren.le_trans le1 (Ren.le_put (A1.fr n1 (Nat.le_refl _))),by omega,?_,?_,?_,?_⟩
     ·rw [← hmid,List.append_assoc,← List.drop_drop,List.take_append_drop,List.take_append_drop]
     ·intro b hb
      rw [Tree.get_set,if_neg (by omega),he1 b hb]
     ·exact .cons (VRel.slice (sh:=ao) (ex:=0) (op:=false) (cap:=cap) (by simp [Ren.put]) hl (fun h=>by omega)) .nil
     ·intro x hx; simp at hx; subst hx; rfl
     ·refine .slice ht (by rw [Tree.get_set,if_pos rfl]) hLl hl (Nat.le_trans (Nat.mul_le_mul_right _ (by omega)) hw1) ?_
      intro i hi
      have hD:=D1 i (by simpa using hi)
      rw [offL_const _ (by omega)] at hD
      simp only [List.getElem_map] at hD
      exact hD.of fun b o hb=>by rw [Tree.get_set,if_neg (by have:=A1.lt hb; omega)]; exact hb
  ·rename_i fs ht
   simp only [Bool.and_eq_true] at hp
   obtain ⟨xs,m,hm,hx,hl,hxl,hf⟩:=DataW.trod_struct ht h
   subst hx
   have hm':m=fuel:=by omega
   subst hm'
   obtain ⟨hp1,hp2⟩:=hp
   split at hp1
   ·rename_i s hs
    have hs':s=P.cellsOf t:=by simpa using hp1
    subst hs'
    have hsum:=fieldsAt_sum hs
    obtain ⟨css,c1,c2,c3⟩:=pieces (fs.toList.map fun f=>P.cellsOf f.type) cs (by rw [hl,hsum]; simp)
    have hcl:css.length=fs.toList.length:=by simpa using c1
    refine ⟨?_,hl⟩
    intro ρ hp0 n A
    have hz:∀ p∈List.zip (fs.toList.map (·.type)) css,Opens P W p.1 p.2∧p.2.length=P.cellsOf p.1:=by
     intro p hpz
     obtain ⟨i,hi,rfl⟩:=List.getElem_of_mem hpz
     have hi2:i<fs.toList.length∧i<css.length:=by
      rw [List.length_zip,List.length_map] at hi; omega
     have hif:=hi2.1
     have hfi:fs[i]? = some fs.toList[i]:=by rw [← Array.getElem?_toList]; exact List.getElem?_eq_getElem hif
     have ho:=fieldsAt_off hs i fs.toList[i] (List.getElem?_eq_getElem hif)
     have ht':=hf i _ hfi
     have hx':∃ x',xs[i]? = some x':=⟨xs[i]'(by rw [hxl]; simpa using hif),List.getElem?_eq_getElem _⟩
     obtain ⟨x',hx'⟩:=hx'
     rw [hx'] at ht'
     have hci:=c3 i (by simpa using hif)
     have hci':css[i]'(by omega)=(cs.drop fs.toList[i].offset).take (P.cellsOf fs.toList[i].type):=by
      have h2:=hci
      rw [List.getElem?_eq_getElem (by omega),Option.some.injEq] at h2
      rw [h2,List.getElem_map,ho,Nat.zero_add,List.map_take]
     have:=open_data m d fs.toList[i].type _ x' (by have:=List.all_eq_true.1 hp2 fs.toList[i] (List.getElem_mem hif); exact this) ht' (fun w hw=>hwt w (by
      simp only [DataW.weights,ht]
      exact DataW.weights_mem_each (j:=i) (t:=fs.toList[i].type) (d:=x'.1) (by rw [List.getElem?_map,List.getElem?_eq_getElem hif]; rfl) (by rw [List.getElem?_map,hx']; rfl) w hw))
     simp only [List.getElem_zip,List.getElem_map,hci']
     exact this
    obtain ⟨ρ',hp',n',us,A',le',nn',he',r',o',D'⟩:=opens_seq _ hz A
    have hflat:((List.zip (fs.toList.map (·.type)) css).map (·.2)).flatten=cs:=by
     rw [List.map_snd_zip (by simp [hcl])]
     exact c2
    rw [hflat] at r' o'
    refine ⟨ρ',hp',n',us,A',le',nn',he',r',o',.struct ht (by rw [r'.length,hl]) ?_⟩
    intro i f hfi
    have hif:i<fs.toList.length:=by have:=(Array.getElem?_eq_some_iff.1 hfi).1; simpa using this
    have hiz:i<(List.zip (fs.toList.map (·.type)) css).length:=by rw [List.length_zip,List.length_map,hcl]; omega
    have hD:=D' i hiz
    have hfe:fs.toList[i]=f:=by
     have:fs.toList[i]? = some f:=by rw [Array.getElem?_toList]; exact hfi
     rw [List.getElem?_eq_getElem hif] at this
     exact Option.some.inj this
    have ho:=fieldsAt_off hs i f (by rw [Array.getElem?_toList]; exact hfi)
    have hoff:offL P (List.zip (fs.toList.map (·.type)) css) i=f.offset:=by
     rw [ho,Nat.zero_add]
     unfold offL
     congr 1
     rw [List.map_take,List.map_take]
     congr 1
     have e1:List.map (fun p:TypeId×List Value=>P.cellsOf p.1) (List.zip (fs.toList.map (·.type)) css)=List.map P.cellsOf (List.map Prod.fst (List.zip (fs.toList.map (·.type)) css)):=by rw [List.map_map]; rfl
     rw [e1,List.map_fst_zip (by simp [hcl]),List.map_map]
     rfl
    rw [hoff] at hD
    simp only [List.getElem_zip,List.getElem_map,hfe] at hD
    exact hD
   ·cases hp1
  ·rename_i k e ht
   simp only [Bool.and_eq_true] at hp
   obtain ⟨hp1,hp2⟩:=hp
   have hke:k*P.cellsOf e=P.cellsOf t:=by simpa using hp1
   obtain ⟨xs,m,hm,hx,hl,hxl,hf⟩:=DataW.trod_array ht h
   subst hx
   have hm':m=fuel:=by omega
   subst hm'
   refine ⟨?_,hl⟩
   intro ρ hp0 n A
   have hz:∀ p∈(List.range k).map (fun i=>(e,(cs.drop (i*P.cellsOf e)).take (P.cellsOf e))),Opens P W p.1 p.2∧p.2.length=P.cellsOf p.1:=by
    intro p hpz
    obtain ⟨i,hi,rfl⟩:=List.mem_map.1 hpz
    have hi':=List.mem_range.1 hi
    have h1:=hf i hi'
    rw [List.getElem?_eq_getElem (by omega)] at h1
    exact open_data m d e _ _ hp2 h1 (fun w hw=>hwt w (by
     simp only [DataW.weights,ht]
     exact weightsAll_mem (List.mem_map_of_mem (List.getElem_mem _)) w hw))
   obtain ⟨ρ',hp',n',us,A',le',nn',he',r',o',D'⟩:=opens_seq _ hz A
   have hflat:(((List.range k).map (fun i=>(e,(cs.drop (i*P.cellsOf e)).take (P.cellsOf e)))).map (·.2)).flatten=cs:=by
    rw [List.map_map]
    have:=rows_flat cs (P.cellsOf e) k
    rw [List.take_of_length_le (by omega)] at this
    exact this
   rw [hflat] at r' o'
   refine ⟨ρ',hp',n',us,A',le',nn',he',r',o',.array ht (by rw [r'.length,hl]) ?_⟩
   intro i hi
   have hD:=D' i (by simpa using hi)
   rw [offL_const _ (by omega)] at hD
   simpa using hD
  ·cases hp
end Go.Ev
end
section
namespace Go.Ev
theorem open_row {H:Type} {enc:TypeId×Value→H} {P:Program} {W:World} {base:Nat} {t e:TypeId} {v:Value} {x:DataW H} {p:List MemPlace} (d:Nat) (ht:P.underlying t=some (.slice e)) (hp:plainT P d t=true)
  (hv:Value.okWide P W .any base t v) (h:DataW.Trod enc P W 0 (fun _=>true) true t v x p) (hw:∀ w∈x.weights P t,w≤reachBytes) {ρ:Ren} {hp0:Heap} {n:Nat} (A:Arg ρ hp0 n W) :
  ∃ ρ' hp' n' u,Arg ρ' hp' n' W∧ρ.le ρ'∧n≤n'∧(∀ b,b<n→hp'.get b=hp0.get b)∧VRel ρ' u v∧Desc P hp' t [u]:=by
 have hcell:v.cells.toList=[v]:=by
  cases v <;> simp [Value.okWide,Cell.okWide,Cell.ok,ht] at hv ⊢ <;> rfl
 obtain ⟨fuel,h⟩:=h
 rw [hcell] at h
 obtain ⟨ho,_⟩:=open_data fuel d t [v] (x,p) hp h hw
 obtain ⟨ρ',hp',n',us,A',le,nn,he,r,o,D⟩:=ho A
 cases r with
 | cons r1 r2=>
  cases r2
  exact ⟨ρ',hp',n',_,A',le,nn,he,r1,D⟩
theorem open_word {H:Type} {enc:TypeId×Value→H} {P:Program} {W:World} {base:Nat} {t:TypeId} {k:IntKind} {v:Value} {x:DataW H} {p:List MemPlace} (ht:P.underlying t=some (.int k)) (hp:plainT P 1 t=true)
  (hv:Value.okWide P W .any base t v) (h:DataW.Trod enc P W 0 (fun _=>true) true t v x p) (hw:∀ w∈x.weights P t,w≤reachBytes) {ρ:Ren} {hp0:Heap} {n:Nat} (A:Arg ρ hp0 n W) :
  ∃ ρ' hp' n' u,Arg ρ' hp' n' W∧ρ.le ρ'∧n≤n'∧(∀ b,b<n→hp'.get b=hp0.get b)∧VRel ρ' u v∧Desc P hp' t [u]:=by
 have hcell:v.cells.toList=[v]:=by
  cases v <;> simp [Value.okWide,Cell.okWide,Cell.ok,ht] at hv ⊢ <;> rfl
 obtain ⟨fuel,h⟩:=h
 rw [hcell] at h
 obtain ⟨ho,_⟩:=open_data fuel 1 t [v] (x,p) hp h hw
 obtain ⟨ρ',hp',n',us,A',le,nn,he,r,o,D⟩:=ho A
 cases r with
 | cons r1 r2=>
  cases r2
  exact ⟨ρ',hp',n',_,A',le,nn,he,r1,D⟩
end Go.Ev
end
