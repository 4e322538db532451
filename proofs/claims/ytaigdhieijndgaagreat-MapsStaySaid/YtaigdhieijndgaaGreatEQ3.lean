import Derived.Test.YtaigdhieijndgaaGreatEQ2
import Derived.Laws.BytesString
section
namespace Go.Ev
variable {C:Ctx}
inductive OptRel (ρ:Ren):Option V→Option Value→Prop
 | none:OptRel ρ none none
 | some {v:V} {x:Value} (h:VRel ρ v x):OptRel ρ (some v) (some x)
theorem asNat_rel {ρ:Ren} {v:V} {x:Value} {n:Nat} (h:asNat v=some n) (hv:VRel ρ v x):∃ k,x=.int k (n:Int):=by
 unfold asNat at h
 split at h
 ·cases h; cases hv; exact ⟨_,rfl⟩
 ·cases h
theorem asPtr_rel {ρ:Ren} {v:V} {x:Value} {p:Nat×Nat} (h:asPtr v=some p) (hv:VRel ρ v x) :
  ∃ c sh ex,ρ p.1=some (c,sh,ex)∧x=.pointer (some ⟨c,p.2+sh,none⟩):=by
 unfold asPtr at h
 split at h
 ·cases h
  cases hv with | ptr h=>exact ⟨_,_,_,h,rfl⟩
 ·cases h
theorem asBool_rel {ρ:Ren} {v:V} {x:Value} {b:Bool} (h:asBool v=some b) (hv:VRel ρ v x):x=.bool b:=by
 unfold asBool at h
 split at h
 ·cases h; cases hv; rfl
 ·cases h
theorem run_sliceBound {P:Program} {k:IntKind} {n y:Nat} (h:n≤y) (code:BoundsCode) (w:World):(Instr.sliceBound (.int k (n:Int)) y code).run P w=.ok n w:=by
 simp only [Instr.sliceBound,asIntOf,Sem.run_bind,Sem.run_pure,Result.andThen_ok,Sem.run_ite]
 rw [if_pos (by omega)]
 simp
theorem bounds_run {ρ:Ren} {len cap cap':Nat} {low high max:Option V} {l' h' m':Option Value} {q:Nat×Nat×Nat} (hb:bounds len cap low high max=some q) (hcap:cap≤cap')
  (hlc:len≤cap) (h1:OptRel ρ low l') (h2:OptRel ρ high h') (h3:OptRel ρ max m') {P:Program} (isS:Bool) (w:World) :
  ∃ m,(Instr.sliceBounds isS len cap' l' h' m').run P w=.ok (q.1,q.2.1,m) w∧q.1≤q.2.1∧q.2.1≤q.2.2∧q.2.2≤cap∧(max.isSome=true→m=q.2.2)∧(max=none→m=cap'∧q.2.2=cap):=by
 unfold bounds at hb
 obtain ⟨g,hb⟩:=of_cond_none hb
 replace hb:=of_bind hb
 obtain ⟨m,hm,hb⟩:=hb
 replace hb:=of_bind hb
 obtain ⟨hh,hhh,hb⟩:=hb
 replace hb:=of_bind hb
 obtain ⟨l,hl,hb⟩:=hb
 cases hb
 have key:∀ {v:Option V} {x:Option Value} {top d n:Nat},bound v top d=some n→OptRel ρ v x →
   (v=none∧x=none∧n=d)∨(∃ k u,v=some u∧x=some (.int k (n:Int))∧n≤top):=by
  intro v x top d n hb hr
  unfold bound at hb
  cases hr with
  | none=>simp at hb; exact .inl ⟨rfl,rfl,hb.symm⟩
  | some hv=>
   replace hb:=of_bind hb
   obtain ⟨a,ha,hb⟩:=hb
   obtain ⟨h1,hb⟩:=of_cond_some hb
   cases hb
   obtain ⟨k,rfl⟩:=asNat_rel ha hv
   exact .inr ⟨k,_,rfl,rfl,by simpa using h1⟩
 rcases key hm h3 with ⟨rfl,rfl,rfl⟩ | ⟨k3,u3,rfl,rfl,hm'⟩
 ·rcases key hhh h2 with ⟨rfl,rfl,rfl⟩ | ⟨k2,u2,rfl,rfl,hh'⟩
  ·rcases key hl h1 with ⟨rfl,rfl,rfl⟩ | ⟨k1,u1,rfl,rfl,hl'⟩
   ·exact ⟨cap',by simp [Instr.sliceBounds],by simp,hlc,Nat.le_refl _,by simp,fun _=>⟨rfl,rfl⟩⟩
   ·exact ⟨cap',by simp [Instr.sliceBounds,run_sliceBound hl'],hl',hlc,Nat.le_refl _,by simp,fun _=>⟨rfl,rfl⟩⟩
  ·have hh2:hh≤cap':=by omega
   rcases key hl h1 with ⟨rfl,rfl,rfl⟩ | ⟨k1,u1,rfl,rfl,hl'⟩
   ·exact ⟨cap',by simp [Instr.sliceBounds,run_sliceBound hh2],by simp,hh',Nat.le_refl _,by simp,fun _=>⟨rfl,rfl⟩⟩
   ·exact ⟨cap',by simp [Instr.sliceBounds,run_sliceBound hl',run_sliceBound hh2],hl',hh',Nat.le_refl _,by simp,fun _=>⟨rfl,rfl⟩⟩
 ·have hm2:m≤cap':=by omega
  rcases key hhh h2 with ⟨rfl,rfl,rfl⟩ | ⟨k2,u2,rfl,rfl,hh'⟩
  ·simp at g
  ·rcases key hl h1 with ⟨rfl,rfl,rfl⟩ | ⟨k1,u1,rfl,rfl,hl'⟩
   ·exact ⟨m,by simp [Instr.sliceBounds,run_sliceBound hh',run_sliceBound hm2],by simp,hh',hm',by simp,by simp⟩
   ·exact ⟨m,by simp [Instr.sliceBounds,run_sliceBound hl',run_sliceBound hh',run_sliceBound hm2],hl',hh',hm',by simp,by simp⟩
theorem VRel.cut {ρ:Ren} {b off len l h m sz c sh ex o mc:Nat} {op':Bool} (hr:ρ b=some (c,sh,ex)) (h1:l≤h) (h2:h≤m) (hm:mc=m+xcap op' ex)
  (ho:mc≠0→o=off+sh) (hlen:len=h-l) :
  VRel ρ (.slice b (off+l*sz) (h-l) (m-l) op') (.slice (some (if mc=l then ⟨c,o,none⟩ else ⟨c,o+l*sz,none⟩)) len (mc-l)):=by
 subst hlen
 have e:mc-l=m-l+xcap op' ex:=by omega
 rw [e]
 by_cases hc:mc=l
 ·rw [if_pos hc]
  exact .slice hr (by omega) (fun h0=>by omega)
 ·rw [if_neg hc]
  exact .slice hr (by omega) (fun h0=>by have:=ho (by omega); omega)
theorem sliceOp_run (hC:C.Ok) {ρ:Ren} {t:TypeId} {u r:V} {low high max:Option V} (h:sliceOp C t u low high max=some r) {x:Value} {l' h' m':Option Value}
  (hu:VRel ρ u x) (h1:OptRel ρ low l') (h2:OptRel ρ high h') (h3:OptRel ρ max m') (w:World) :
  ∃ y,(Instr.sliceAt t x l' h' m').run C.P w=.ok y w∧VRel ρ r y:=by
 unfold sliceOp at h
 replace h:=of_bind h
 obtain ⟨i,hi,h⟩:=h
 obtain ⟨_,sp⟩:=hC.spec hi
 have hU:=sp.und
 split at h
 ·rename_i n e b off hd
  replace h:=of_bind h
  obtain ⟨j,hj,h⟩:=h
  replace h:=of_bind h
  obtain ⟨q,hq,h⟩:=h
  cases h
  obtain ⟨_,sj⟩:=hC.spec hj
  cases hu with | @ptr _ _ c sh ex hr=>
  obtain ⟨m,b1,b2,b3,b4,b5,b6⟩:=bounds_run hq (Nat.le_refl _) (Nat.le_refl _) h1 h2 h3 (P:=C.P) false w
  have hm:m=q.2.2:=by
   cases max with
   | none=>obtain ⟨a,b⟩:=b6 rfl; omega
   | some _=>exact b5 rfl
  rw [hd] at hU
  refine ⟨.slice (some (if m=q.1 then ⟨c,off+sh,none⟩ else ⟨c,off+sh+q.1*j.size,none⟩)) (q.2.1-q.1) (m-q.1),?_,VRel.cut (op':=false) hr b2 b3 (by simp [xcap,hm]) (fun _=>rfl) rfl⟩
  simp only [Instr.sliceAt,Sem.run_bind,run_underlying hU,Result.andThen_ok,Instr.sureAddr,Sem.run_pure,b1,sj.run_size,addr_add]
 ·rename_i e b off len cap op hd
  replace h:=of_bind h
  obtain ⟨j,hj,h⟩:=h
  replace h:=of_bind h
  obtain ⟨q,hq,h⟩:=h
  cases h
  obtain ⟨_,sj⟩:=hC.spec hj
  cases hu with | @slice _ _ _ _ c sh ex o _ hr hl ho=>
  obtain ⟨m,b1,b2,b3,b4,b5,b6⟩:=bounds_run (cap':=cap+xcap op ex) hq (by omega) hl h1 h2 h3 (P:=C.P) true w
  have hm:m=q.2.2+xcap (op && max.isNone) ex:=by
   cases max with
   | none=>obtain ⟨a,b⟩:=b6 rfl; simp; omega
   | some _=>simp [xcap,b5 rfl]
  have hm2:m≤cap+xcap op ex:=by
   cases max with
   | none=>obtain ⟨a,b⟩:=b6 rfl; omega
   | some _=>have:=b5 rfl; omega
  rw [hd] at hU
  refine ⟨.slice (some (if m=q.1 then ⟨c,o,none⟩ else ⟨c,o+q.1*j.size,none⟩)) (q.2.1-q.1) (m-q.1),?_,VRel.cut hr b2 b3 hm (fun h0=>ho (by omega)) rfl⟩
  simp only [Instr.sliceAt,Instr.slice,Sem.run_bind,run_underlying hU,Result.andThen_ok,Sem.run_pure,b1,sj.run_size]
  split <;> simp [addr_add]
 ·rename_i e hd
  replace h:=of_bind h
  obtain ⟨j,hj,h⟩:=h
  replace h:=of_bind h
  obtain ⟨q,hq,h⟩:=h
  cases h
  obtain ⟨_,sj⟩:=hC.spec hj
  cases hu
  obtain ⟨m,b1,b2,b3,b4,b5,b6⟩:=bounds_run hq (Nat.le_refl _) (Nat.le_refl _) h1 h2 h3 (P:=C.P) true w
  have hm:m=0:=by
   cases max with
   | none=>obtain ⟨a,b⟩:=b6 rfl; omega
   | some _=>have:=b5 rfl; omega
  subst hm
  have e1:q.1=0:=by omega
  have e2:q.2.1=0:=by omega
  rw [hd] at hU
  rw [e1,e2] at b1
  refine ⟨.slice none 0 0,?_,.s _⟩
  simp [Instr.sliceAt,Instr.slice,run_underlying hU,b1,sj.run_size]
 ·rename_i s hd
  obtain ⟨g,h⟩:=of_cond_none h
  replace h:=of_bind h
  obtain ⟨q,hq,h⟩:=h
  cases h
  cases hu
  cases h3 with
  | some _=>simp at g
  | none=>
  obtain ⟨m,b1,b2,b3,b4,b5,b6⟩:=bounds_run hq (Nat.le_refl _) (Nat.le_refl _) h1 h2 .none (P:=C.P) false w
  rw [hd] at hU
  refine ⟨.string (s.extract q.1 q.2.1),?_,.s _⟩
  simp [Instr.sliceAt,Instr.slice,run_underlying hU,b1]
 ·cases h
theorem indexAddr_run (hC:C.Ok) {ρ:Ren} {t:TypeId} {u k r:V} (h:indexAddr C t u k=some r) {x ix:Value} (hu:VRel ρ u x) (hk:VRel ρ k ix) (w:World) :
  ∃ y,(Instr.indexAt t x ix).run C.P w=.ok y w∧VRel ρ r y:=by
 unfold indexAddr at h
 replace h:=of_bind h
 obtain ⟨i,hi,h⟩:=h
 replace h:=of_bind h
 obtain ⟨n,hn,h⟩:=h
 obtain ⟨_,sp⟩:=hC.spec hi
 have hU:=sp.und
 obtain ⟨kk,rfl⟩:=asNat_rel hn hk
 split at h
 ·rename_i len e b off hd
  replace h:=of_bind h
  obtain ⟨j,hj,h⟩:=h
  obtain ⟨g,h⟩:=of_cond_some h
  cases h
  rw [blt_true_iff] at g
  obtain ⟨_,sj⟩:=hC.spec hj
  cases hu with | @ptr _ _ c sh ex hr=>
  rw [hd] at hU
  refine ⟨.pointer (some ⟨c,off+n*j.size+sh,none⟩),?_,.ptr hr⟩
  have hlt:(0:Int)≤(n:Int)∧(n:Int)<(len:Int):=by omega
  simp only [Instr.indexAt,asIntOf,Instr.sureAddr,Sem.run_bind,Sem.run_pure,Result.andThen_ok,run_underlying hU,hlt,and_self,if_true,sj.run_size,addr_add,Int.toNat_natCast]
  rw [show off+n*j.size+sh=off+sh+n*j.size from by omega]
 ·rename_i e b off len cap op hd
  replace h:=of_bind h
  obtain ⟨j,hj,h⟩:=h
  obtain ⟨g,h⟩:=of_cond_some h
  cases h
  rw [blt_true_iff] at g
  obtain ⟨_,sj⟩:=hC.spec hj
  cases hu with | @slice _ _ _ _ c sh ex o _ hr hl ho=>
  rw [hd] at hU
  have ho:=ho (by omega)
  subst ho
  refine ⟨.pointer (some ⟨c,off+n*j.size+sh,none⟩),?_,.ptr hr⟩
  have hlt:(0:Int)≤(n:Int)∧(n:Int)<(len:Int):=by omega
  simp only [Instr.indexAt,asIntOf,Sem.run_bind,Sem.run_pure,Result.andThen_ok,run_underlying hU,hlt,and_self,if_true,sj.run_size,addr_add,Int.toNat_natCast]
  rw [show off+n*j.size+sh=off+sh+n*j.size from by omega]
 ·cases h
theorem index_run (hC:C.Ok) {ρ:Ren} {t:TypeId} {u k r:V} (h:index C t u k=some r) {x ix:Value} (hu:VRel ρ u x) (hk:VRel ρ k ix) (w:World) :
  ∃ y,(Instr.index t x ix).run C.P w=.ok y w∧VRel ρ r y:=by
 unfold index at h
 replace h:=of_bind h
 obtain ⟨i,hi,h⟩:=h
 obtain ⟨_,sp⟩:=hC.spec hi
 have hU:=sp.und
 split at h
 ·rename_i len e cs hd
  replace h:=of_bind h
  obtain ⟨n,hn,h⟩:=h
  replace h:=of_bind h
  obtain ⟨j,hj,h⟩:=h
  obtain ⟨g,h⟩:=of_cond_some h
  rw [blt_true_iff] at g
  obtain ⟨_,sj⟩:=hC.spec hj
  obtain ⟨kk,rfl⟩:=asNat_rel hn hk
  cases hu with | agg ho hx hc=>
  obtain ⟨y,p1,p2,_⟩:=part_run hC hj h ho hx hc w
  rw [hd] at hU
  refine ⟨y,?_,p2⟩
  have hlt:(0:Int)≤(n:Int)∧(n:Int)<(len:Int):=by omega
  simp only [Instr.index,asIntOf,Sem.run_bind,Sem.run_pure,Result.andThen_ok,run_underlying hU,hlt,and_self,if_true,sj.run_size,Int.toNat_natCast,p1]
 ·replace h:=of_bind h
  obtain ⟨y,hy,h⟩:=h
  cases h
  cases hu; cases hk
  exact ⟨y,pure?_run hy w,.s _⟩
 ·cases h
theorem placeOf_rel {fs:Array Field} {f:Nat} {q:Field×Ty} (h:placeOf C fs f=some q):fs[f]? = some q.1∧ty C q.1.type=some q.2:=by
 unfold placeOf at h
 replace h:=of_bind h
 obtain ⟨x,h1,h⟩:=h
 replace h:=of_bind h
 obtain ⟨i,h2,h⟩:=h
 cases h
 exact ⟨h1,h2⟩
theorem field_run (hC:C.Ok) {ρ:Ren} {t:TypeId} {i:Ty} {fs:Array Field} {f:Nat} {q:Field×Ty} {cs:Rope V} {r:V} (hi:ty C t=some i) (hd:i.desc=.struct fs)
  (hq:placeOf C fs f=some q) (h:part q.2 cs q.1.offset=some r) {x:Value} (hu:VRel ρ (.agg cs) x) (w:World) :
  ∃ y,(Instr.field t x f).run C.P w=.ok y w∧VRel ρ r y:=by
 obtain ⟨_,sp⟩:=hC.spec hi
 have hU:=sp.und
 rw [hd] at hU
 obtain ⟨h1,h2⟩:=placeOf_rel hq
 cases hu with | agg ho hx hc=>
 obtain ⟨y,p1,p2,_⟩:=part_run hC h2 h ho hx hc w
 exact ⟨y,by simp [Instr.field,run_underlying hU,h1,asAgg,p1],p2⟩
theorem fieldAddr_run (hC:C.Ok) {ρ:Ren} {t:TypeId} {i:Ty} {fs:Array Field} {f:Nat} {q:Field×Ty} (hi:ty C t=some i) (hd:i.desc=.struct fs)
  (hq:placeOf C fs f=some q) (hz:q.2.size≠0) {b off c sh ex:Nat} (hr:ρ b=some (c,sh,ex)) (w:World) :
  (Instr.fieldAt t (.pointer (some ⟨c,off+sh,none⟩)) f).run C.P w=.ok (.pointer (some ⟨c,off+q.1.offset+sh,none⟩)) w:=by
 obtain ⟨_,sp⟩:=hC.spec hi
 have hU:=sp.und
 rw [hd] at hU
 obtain ⟨h1,h2⟩:=placeOf_rel hq
 obtain ⟨_,sj⟩:=hC.spec h2
 simp only [Instr.fieldAt,Sem.run_bind,run_underlying hU,Result.andThen_ok,h1,Instr.sureAddr,Sem.run_pure,fieldPlace,sj.run_size,Sem.run_ite]
 rw [if_neg hz]
 simp [show off+q.1.offset+sh=off+sh+q.1.offset from by omega]
end Go.Ev
end
section
namespace Go.Ev
variable {C:Ctx}
theorem bytes_beq {a b:ByteArray}:(a == b)=true↔a=b:=by
 obtain ⟨⟨x⟩⟩:=a
 obtain ⟨⟨y⟩⟩:=b
 show ((⟨x⟩:Array UInt8) == ⟨y⟩)=true↔_
 simp
theorem keyNow_rel {ρ:Ren} {d:TypeDesc} {k k':V} {b:Bool} (h:keyNow d k k'=some b) {x x':Value} (hx:VRel ρ k x) (hx':VRel ρ k' x') :
  Instr.sameNow d x x'=some b∧(b=true→x=x')∧(∀ n,Instr.sameBits n x x=true):=by
 unfold keyNow at h
 split at h
 ·obtain ⟨h1,h⟩:=of_cond_some h
  cases h
  cases hx; cases hx'
  rw [kindEq_iff] at h1
  subst h1
  refine ⟨by simp [Instr.sameNow,intEq_eq],fun e=>?_,fun n=>by cases n <;> simp [Instr.sameBits]⟩
  rw [intEq_eq] at e
  simp at e; rw [e]
 ·cases h
  cases hx; cases hx'
  exact ⟨rfl,fun e=>by rw [bytes_beq.1 e],fun n=>by cases n <;> simp [Instr.sameBits,bytes_beq.2 rfl]⟩
 ·cases h
  cases hx; cases hx'
  exact ⟨rfl,fun e=>by rw [eq_of_beq e],fun n=>by cases n <;> simp [Instr.sameBits]⟩
 ·cases h
theorem findKey_rel {ρ:Ren} {d:TypeDesc} {k:V} {x:Value} (hk:VRel ρ k x) {es:List Ent} {ms:List MapEntry} (he:ERels ρ es ms):∀ {i:Nat} {r:Option (Nat×V)},findKey d k es i=some r →
  match r with
  | none=>Instr.findNow d x ms i=some none
  | some (j,v)=>∃ m,Instr.findNow d x ms i=some (some (j,m.val))∧i≤j∧ms[j-i]? = some m∧m.key=x∧VRel ρ v m.val∧(∀ n,Instr.sameBits n x x=true):=by
 induction he with
 | nil=>intro i r h; simp [findKey] at h; subst h; rfl
 | cons he hs ih=>
  intro i r h
  simp only [findKey] at h
  replace h:=of_bind h
  obtain ⟨b,hb,h⟩:=h
  cases he with | @mk k' v n x' y hk' hv=>
  obtain ⟨h1,h2,h3⟩:=keyNow_rel hb hk hk'
  cases b with
  | true=>
   simp only [cond_true] at h
   cases h
   have:=h2 rfl
   subst this
   exact ⟨⟨x,y,n⟩,by simp [Instr.findNow,h1],Nat.le_refl _,by simp,rfl,hv,h3⟩
  | false=>
   simp only [cond_false] at h
   have ih:=ih h
   cases r with
   | none=>simpa [Instr.findNow,h1] using ih
   | some q=>
    obtain ⟨j,u⟩:=q
    obtain ⟨m',g1,g2,g3,g4⟩:=ih
    refine ⟨m',by simpa [Instr.findNow,h1] using g1,by omega,?_,g4⟩
    rw [show j-i=j-(i+1)+1 from by omega]
    simpa using g3
theorem mapTy_rel (hC:C.Ok) {t:TypeId} {q:TypeDesc×TypeId} (h:mapTy C t=some q) :
  ∃ k,C.P.underlying t=some (.map k q.2)∧C.P.underlying k=some q.1∧plainKey q.1=true:=by
 unfold mapTy at h
 replace h:=of_bind h
 obtain ⟨i,hi,h⟩:=h
 obtain ⟨_,sp⟩:=hC.spec hi
 have hU:=sp.und
 split at h
 ·rename_i k e hd
  replace h:=of_bind h
  obtain ⟨j,hj,h⟩:=h
  obtain ⟨h1,h⟩:=of_cond_some h
  cases h
  obtain ⟨_,sj⟩:=hC.spec hj
  rw [hd] at hU
  exact ⟨k,hU,sj.und,h1⟩
 ·cases h
theorem run_checkKey {P:Program} {k:TypeId} {d:TypeDesc} (hu:P.underlying k=some d) (hp:plainKey d=true) (e:Bool) (x:Value) (w:World) :
  (Instr.checkKey e 10000 k x).run P w=.ok () w:=by
 have h:∀ n,(Instr.checkKey e (n+1) k x).run P w=.ok () w:=by
  intro n
  cases d <;> simp [plainKey] at hp <;> simp [Instr.checkKey,run_underlying hu]
 exact h 9999
theorem run_findKey {P:Program} {k:TypeId} {d:TypeDesc} (hu:P.underlying k=some d) {x:Value} {ms:List MapEntry} {r:Option (Nat×Value)} (h:Instr.findNow d x ms 0=some r) (w:World) :
  (Instr.findKey k x ms).run P w=.ok r w:=by
 simp [Instr.findKey,run_underlying hu,h]
theorem HRel.map {ρ:Ren} {h:Heap} {w:World} (H:HRel ρ h w) {b:Nat} {q:List Ent×Nat} (hm:mapAt h (.map b)=some q) {c sh ex:Nat} (hr:ρ b=some (c,sh,ex)) :
  sh=0∧∃ ms,w.heap[c]? = some (.map ms q.2)∧ERels ρ q.1 ms.toList:=by
 unfold mapAt at hm
 simp only at hm
 split at hm
 ·rename_i es cl hg
  cases hm
  obtain ⟨x,h1,h2⟩:=H.at hg hr
  cases h2 with
  | map hs he=>exact ⟨hs,_,h1,by simpa using he⟩
 ·rename_i es cl hg
  cases hm
  obtain ⟨x,h1,h2⟩:=H.at hg hr
  cases h2 with
  | roMap hs he=>exact ⟨hs,_,h1,by simpa using he⟩
 ·cases hm
theorem HRel.omap {ρ:Ren} {h:Heap} {w:World} (H:HRel ρ h w) {b:Nat} {q:List Ent×Nat} (hm:mapOwn h b=some q) {c sh ex:Nat} (hr:ρ b=some (c,sh,ex)) :
  h.get b=some (.map q.1 q.2)∧sh=0∧∃ ms,w.heap[c]? = some (.map ms q.2)∧ERels ρ q.1 ms.toList:=by
 unfold mapOwn at hm
 split at hm
 ·rename_i es cl hg
  cases hm
  obtain ⟨x,h1,h2⟩:=H.at hg hr
  cases h2 with
  | map hs he=>exact ⟨hg,hs,_,h1,by simpa using he⟩
 ·cases hm
theorem run_getMap {P:Program} {w:World} {c:Nat} {ms:Array MapEntry} {cl:Nat} (h:w.heap[c]? = some (.map ms cl)):(Go.getObj c).run P w=.ok (.map ms cl) w:=by
 simp [Go.getObj,Sem.run,h]
theorem lookup_run (hC : C.Ok) {ρ : Ren} {h : Heap} {w : World} (H : HRel ρ h w) {t : TypeId} {m k r : V} {ok : Bool} (hl : lookup C h t m k ok = some r) {x kx : Value}
    (hm : VRel ρ m x) (hk : VRel ρ k kx) : ∃ y, (Instr.lookup t x kx ok).run C.P w = .ok y w ∧ VRel ρ r y := by
  unfold lookup at hl
  replace hl := of_bind hl
  obtain ⟨ke, hke, hl⟩ := hl
  replace hl := of_bind hl
  obtain ⟨q, hq, hl⟩ := hl
  replace hl := of_bind hl
  obtain ⟨f, hf, hl⟩ := hl
  obtain ⟨kt, u1, u2, u3⟩ := mapTy_rel hC hke
  have key : ∀ (ms : Array MapEntry), ERels ρ q.1 ms.toList → ∀ w' : World, (∃ y, (Go.zeroValue ke.2).run C.P w' = .ok y w' ∧ (Instr.findKey kt kx ms.toList).run C.P w' = .ok none w' ∧
        VRel ρ r (if ok then .tuple #[y, .bool false] else y)) ∨
      ∃ j y, (Instr.findKey kt kx ms.toList).run C.P w' = .ok (some (j, y)) w' ∧ VRel ρ r (if ok then .tuple #[y, .bool true] else y) := by
    intro ms he w'
    have hfr := findKey_rel hk he hf
    cases f with
    | none =>
      try simp only at hfr hl
      replace hl := of_bind hl
      obtain ⟨i, hi, hl⟩ := hl
      replace hl := of_bind hl
      obtain ⟨z, hz, hl⟩ := hl
      obtain ⟨_, sp⟩ := hC.spec hi
      obtain ⟨y, z1, z2, _⟩ := sp.run_zero hz ρ w'
      refine .inl ⟨y, z1, run_findKey u2 hfr w', ?_⟩
      cases ok
      · simp at hl; subst hl; simpa using z2
      · simp at hl; subst hl
        simpa using VRel.tup (.cons z2 (.cons (.s (.bool false)) .nil))
    | some p =>
      obtain ⟨j, v⟩ := p
      obtain ⟨e, g1, g2, g3, g4, g5, g6⟩ := hfr
      simp only at hl
      refine .inr ⟨j, e.val, run_findKey u2 g1 w', ?_⟩
      cases ok
      · simp at hl; subst hl; simpa using g5
      · simp at hl; subst hl
        simpa using VRel.tup (.cons g5 (.cons (.s (.bool true)) .nil))
  cases m with
  | s a =>
    simp only [mapAt] at hq
    cases hm
    cases x <;> try (simp at hq; done)
    rename_i a
    cases a <;> try (simp at hq; done)
    simp at hq
    subst hq
    rcases key #[] .nil w with ⟨y, z1, z2, z3⟩ | ⟨j, y, z1, z2⟩
    · exact ⟨_, by simp only [Instr.lookup, Sem.run_bind, run_underlying u1, Result.andThen_ok, Sem.run_pure, run_checkKey u2 u3, z2, z1], z3⟩
    · exact ⟨_, by simp only [Instr.lookup, Sem.run_bind, run_underlying u1, Result.andThen_ok, Sem.run_pure, run_checkKey u2 u3, z1], z2⟩
  | map b =>
    cases hm with | map hr =>
    obtain ⟨_, ms, g1, g2⟩ := H.map hq hr
    rcases key ms g2 w with ⟨y, z1, z2, z3⟩ | ⟨j, y, z1, z2⟩
    · exact ⟨_, by simp only [Instr.lookup, Sem.run_bind, run_underlying u1, Result.andThen_ok, run_getMap g1, Sem.run_pure, run_checkKey u2 u3, z2, z1], z3⟩
    · exact ⟨_, by simp only [Instr.lookup, Sem.run_bind, run_underlying u1, Result.andThen_ok, run_getMap g1, Sem.run_pure, run_checkKey u2 u3, z1], z2⟩
  | _ => simp [mapAt] at hq
theorem typeAssert_run (hC:C.Ok) {ρ:Ren} {v r:V} {xt asserted:TypeId} {ok:Bool} (h:typeAssert C v asserted ok=some r) {x:Value} (hv:VRel ρ v x) (w:World) :
  ∃ y,(Instr.typeAssert x xt asserted ok).run C.P w=.ok y w∧VRel ρ r y:=by
 unfold typeAssert at h
 replace h:=of_bind h
 obtain ⟨i,hi,h⟩:=h
 obtain ⟨_,sp⟩:=hC.spec hi
 have hU:=sp.und
 have hfail:(bif ok then i.zero.bind fun z=>some (V.tup [z,.s (.bool false)]) else none)=some r →
   ok=true∧∃ y,(Go.zeroValue asserted).run C.P w=.ok y w∧VRel ρ r (.tuple #[y,.bool false]):=by
  intro hf
  obtain ⟨h1,hf⟩:=of_cond_some hf
  replace hf:=of_bind hf
  obtain ⟨z,hz,hf⟩:=hf
  cases hf
  obtain ⟨y,z1,z2,_⟩:=sp.run_zero hz ρ w
  exact ⟨h1,y,z1,by simpa using VRel.tup (.cons z2 (.cons (.s (.bool false)) .nil))⟩
 have hhold:∀ (u:V) (y:Value),VRel ρ u y→some (bif ok then V.tup [u,.s (.bool true)] else u)=some r→VRel ρ r (if ok then .tuple #[y,.bool true] else y):=by
  intro u y hu hr
  cases ok
  ·simp at hr; subst hr; simpa using hu
  ·simp at hr; subst hr
   simpa using VRel.tup (.cons hu (.cons (.s (.bool true)) .nil))
 simp only at h
 split at h
 ·rename_i ms hd
  obtain ⟨rfl,y,z1,z2⟩:=hfail h
  cases hv
  rw [hd] at hU
  exact ⟨_,by simp [Instr.typeAssert,run_underlying hU,z1],z2⟩
 ·rename_i want t u hd
  replace h:=of_bind h
  obtain ⟨j,hj,h⟩:=h
  obtain ⟨xj,sj⟩:=hC.spec hj
  have hmeth:j.methods.toArray=xj.methods:=by rw [sj.methods]
  rw [hmeth] at h
  rw [hd] at hU
  have hvv:=hv
  cases hv with | iface hu=>
  split at h
  ·rename_i hmm
   refine ⟨_,?_,hhold _ _ hvv h⟩
   simp [Instr.typeAssert,run_underlying hU,sj.run_info,hmm]
  ·rename_i m hmm
   obtain ⟨rfl,y,z1,z2⟩:=hfail h
   exact ⟨_,by simp [Instr.typeAssert,run_underlying hU,sj.run_info,hmm,z1],z2⟩
 ·rename_i hno
  obtain ⟨rfl,y,z1,z2⟩:=hfail h
  cases hv
  refine ⟨_,?_,z2⟩
  have:∀ ms,i.desc≠.interface ms:=fun ms e=>hno ms e
  cases hd:i.desc <;> rw [hd] at hU <;> first
   | exact (this _ hd).elim
   | simp [Instr.typeAssert,run_underlying hU,z1]
 ·rename_i t u hno
  have this:∀ ms,i.desc≠.interface ms:=fun ms e=>hno ms e
  cases hv with | iface hu=>
  by_cases e:t=asserted
  ·subst e
   rw [show Nat.beq t t=true from by simp] at h
   refine ⟨_,?_,hhold _ _ hu h⟩
   cases hd:i.desc <;> rw [hd] at hU <;> first
    | exact (this _ hd).elim
    | simp [Instr.typeAssert,run_underlying hU]
  ·rw [show Nat.beq t asserted=false from by simpa using e] at h
   obtain ⟨rfl,y,z1,z2⟩:=hfail h
   refine ⟨_,?_,z2⟩
   cases hd:i.desc <;> rw [hd] at hU <;> first
    | exact (this _ hd).elim
    | simp [Instr.typeAssert,run_underlying hU,e,z1]
 ·cases h
theorem lenV_run (hC:C.Ok) {ρ:Ren} {h:Heap} {w:World} (H:HRel ρ h w) {ats:Array TypeId} {t rt:TypeId} {v r:V} (hl:lenV C h t v=some r) (h0:ats[0]? = some t) {x:Value} (hv:VRel ρ v x) :
  ∃ y,(Builtin.len_ ats rt #[x]).run C.P w=.ok y w∧VRel ρ r y:=by
 unfold lenV at hl
 replace hl:=of_bind hl
 obtain ⟨i,hi,hl⟩:=hl
 obtain ⟨_,sp⟩:=hC.spec hi
 have hU:=sp.und
 split at hl
 ·rename_i s hd
  cases hl; cases hv
  rw [hd] at hU
  exact ⟨_,by simp [Builtin.len_,h0,run_underlying hU],.s _⟩
 ·rename_i n e hd
  cases hl
  rw [hd] at hU
  refine ⟨_,?_,.s _⟩
  cases hv <;> simp [Builtin.len_,h0,run_underlying hU]
 ·rename_i arr hd
  replace hl:=of_bind hl
  obtain ⟨j,hj,hl⟩:=hl
  obtain ⟨_,sj⟩:=hC.spec hj
  have hV:=sj.und
  rw [hd] at hU
  split at hl
  ·rename_i n e hd'
   cases hl
   rw [hd'] at hV
   refine ⟨_,?_,.s _⟩
   cases hv <;> simp [Builtin.len_,h0,run_underlying hU,run_underlying hV]
  ·cases hl
 ·rename_i e b off n cap op hd
  cases hl
  cases hv with | slice hr hl ho=>
  rw [hd] at hU
  exact ⟨_,by simp [Builtin.len_,h0,run_underlying hU],.s _⟩
 ·rename_i e hd
  cases hl; cases hv
  rw [hd] at hU
  exact ⟨_,by simp [Builtin.len_,h0,run_underlying hU],.s _⟩
 ·rename_i hd
  cases hl; cases hv
  rw [hd] at hU
  exact ⟨_,by simp [Builtin.len_,h0,run_underlying hU],.s _⟩
 ·rename_i v _ _ k e hd
  replace hl:=of_bind hl
  obtain ⟨q,hq,hl⟩:=hl
  cases hl
  rw [hd] at hU
  cases v with
  | s a=>
   simp only [mapAt] at hq
   cases hv
   cases x <;> try (simp at hq; done)
   rename_i a
   cases a <;> try (simp at hq; done)
   simp at hq
   subst hq
   exact ⟨_,by simp [Builtin.len_,h0,run_underlying hU],.s _⟩
  | map b=>
   cases hv with | map hr=>
   obtain ⟨_,ms,g1,g2⟩:=H.map hq hr
   have:=g2.length
   refine ⟨_,?_,.s _⟩
   simp [Builtin.len_,h0,run_underlying hU,run_getMap g1,this]
  | _=>simp [mapAt] at hq
 ·cases hl
theorem capV_run (hC:C.Ok) {ρ:Ren} {w:World} {ats:Array TypeId} {t rt:TypeId} {v r:V} (hl:capV C t v=some r) (h0:ats[0]? = some t) {x:Value} (hv:VRel ρ v x) :
  ∃ y,(Builtin.cap_ ats rt #[x]).run C.P w=.ok y w∧VRel ρ r y:=by
 unfold capV at hl
 replace hl:=of_bind hl
 obtain ⟨i,hi,hl⟩:=hl
 obtain ⟨_,sp⟩:=hC.spec hi
 have hU:=sp.und
 split at hl
 ·rename_i n e hd
  cases hl
  rw [hd] at hU
  refine ⟨_,?_,.s _⟩
  cases hv <;> simp [Builtin.cap_,h0,run_underlying hU]
 ·rename_i e b off n cap hd
  cases hl
  cases hv with | slice hr hl ho=>
  rw [hd] at hU
  exact ⟨_,by simp [Builtin.cap_,h0,run_underlying hU,xcap],.s _⟩
 ·rename_i e hd
  cases hl; cases hv
  rw [hd] at hU
  exact ⟨_,by simp [Builtin.cap_,h0,run_underlying hU],.s _⟩
 ·cases hl
end Go.Ev
end
section
namespace Go.Ev
variable {C:Ctx}
theorem firstCells_runs {ρ:Ren} {h:Heap} {w:World} (H:HRel ρ h w) {sz n:Nat} {v:V} {r:Rope V} (hf:firstCells h sz n v=some r) {x:Value} (hv:VRel ρ v x) :
  ∃ ys:List Value,r.Ok∧VRels ρ r.toList ys∧(∀ y∈ys,y.oneCell'=true)∧∀ w':World,w'.heap=w.heap→(Builtin.firstCells sz n x).run C.P w'=.ok ys.toArray w' ∧
   (∀ a l c,x=.slice (some a) l c→(Go.loadCells a (n*sz)).run C.P w'=.ok ys.toArray w'):=by
 unfold firstCells at hf
 split at hf
 ·rename_i b off len cap op
  obtain ⟨g,hf⟩:=of_cond_some hf
  rw [ble_true_iff] at g
  cases hv with | @slice _ _ _ _ c sh ex o _ hr hl ho=>
  by_cases hz:n*sz=0
  ·rw [hz] at hf
   simp at hf
   subst hf
   have:∀ a w',(Go.loadCells a (n*sz)).run C.P w'=.ok ([]:List Value).toArray w':=fun a w'=>by rw [hz]; rfl
   exact ⟨[],trivial,.nil,by simp,fun w' _=>⟨this _ w',fun a l c _=>this a w'⟩⟩
  ·rw [show Nat.beq (n*sz) 0=false from by simpa using hz] at hf
   simp only [cond_false] at hf
   replace hf:=of_bind hf
   obtain ⟨q,hq,hf⟩:=hf
   obtain ⟨g2,hf⟩:=of_cond_some hf
   cases hf
   rw [ble_true_iff] at g2
   obtain ⟨arr,t',fz,pre,mid,post,h1,h2,h3,h4,h5,h6⟩:=H.rcells hq hr
   have hsz:=Rope.size_eq h2
   have hlen:=h5.length
   obtain ⟨e1,e2⟩:=Rope.ext_ok off (n*sz) h2 g2
   have hn:n≠0:=by rintro rfl; simp at hz
   have ho:=ho (by omega)
   subst ho
   have e:((mid.drop off).take (n*sz)).length=n*sz:=by simp; omega
   have key:∀ w':World,w'.heap=w.heap→(Go.loadCells ⟨c,off+sh,none⟩ (n*sz)).run C.P w'=.ok ((mid.drop off).take (n*sz)).toArray w':=by
    intro w' hw
    have:=run_loadCells_list (P:=C.P) (w:=w') ⟨c,off+sh,none⟩ ((mid.drop off).take (n*sz)) (by
     intro j y hj
     rw [List.getElem?_take] at hj
     split at hj
     ·rw [List.getElem?_drop] at hj
      have:=cell_of_row (w:=w') (by rw [hw]; exact h1) h3 hj
      rw [addr_add,← h4,← this]
      congr 2; omega
     ·cases hj)
    rw [e] at this
    exact this
   refine ⟨_,e1,by rw [e2]; exact (h5.drop off).take _,?_,fun w' hw=>⟨key w' hw,?_⟩⟩
   ·intro y hy; exact h6 y (List.mem_of_mem_drop (List.mem_of_mem_take hy))
   ·intro a l c' ha
    cases ha
    exact key w' hw
 ·obtain ⟨g,hf⟩:=of_cond_some hf
  cases hf
  cases hv
  exact ⟨[],trivial,.nil,by simp,fun w' _=>⟨rfl,fun a l c ha=>by cases ha⟩⟩
 ·rename_i a0
  obtain ⟨g,hf⟩:=of_cond_some hf
  have hn:n=0:=by simpa using g
  subst hn
  cases hf
  cases hv
  have:∀ a w',(Go.loadCells a (0*sz)).run C.P w'=.ok ([]:List Value).toArray w':=fun a w'=>by rw [Nat.zero_mul]; rfl
  exact ⟨[],trivial,.nil,by simp,fun w' _=>⟨this _ w',fun a l c _=>this a w'⟩⟩
 ·rename_i s
  cases hf
  cases hv
  obtain ⟨o1,o2,o3⟩:=Rope.ofList_ok (bytesV ((s.extract 0 n).data.toList))
  refine ⟨(s.extract 0 n).data.toList.map fun b=>.int .u8 b.toNat,o1,?_,?_,fun w' _=>⟨?_,fun a l c ha=>by cases ha⟩⟩
  ·rw [o2]; exact .scalarsMap _ _
  ·intro y hy
   simp only [List.mem_map] at hy
   obtain ⟨b,_,rfl⟩:=hy
   rfl
  ·simp only [Builtin.firstCells,Sem.run_pure]
   congr 1
   apply Array.toList_inj.1
   simp
 ·cases hf
theorem firstCells_run {ρ:Ren} {h:Heap} {w:World} (H:HRel ρ h w) {sz n:Nat} {v:V} {r:Rope V} (hf:firstCells h sz n v=some r) {x:Value} (hv:VRel ρ v x) :
  ∃ ys:List Value,(Builtin.firstCells sz n x).run C.P w=.ok ys.toArray w∧r.Ok∧VRels ρ r.toList ys∧(∀ y∈ys,y.oneCell'=true) ∧
   (∀ a l c,x=.slice (some a) l c→(Go.loadCells a (n*sz)).run C.P w=.ok ys.toArray w):=by
 obtain ⟨ys,h1,h2,h3,h4⟩:=firstCells_runs (C:=C) H hf hv
 exact ⟨ys,(h4 w rfl).1,h1,h2,h3,(h4 w rfl).2⟩
theorem toBytes_rel {ρ:Ren}:∀ {l:List V} {bs:List UInt8} {ys:List Value},toBytes l=some bs→VRels ρ l ys →
  ∃ ns:List Int,ys=ns.map (Value.int .u8)∧bs=ns.map fun n=>UInt8.ofNat n.toNat
 | [],bs,ys,h,hr=>by
  simp [toBytes] at h
  subst h
  exact ⟨[],by simpa using hr.nil_inv,rfl⟩
 | v::l,bs,ys,h,hr=>by
  obtain ⟨y,zs,rfl,h1,h2⟩:=hr.cons_inv
  unfold toBytes at h
  split at h
  ·rename_i e; cases e
  ·rename_i n l' e
   cases e
   replace h:=of_bind h
   obtain ⟨bs',hb,h⟩:=h
   cases h
   obtain ⟨ns,e1,e2⟩:=toBytes_rel hb h2
   cases h1
   exact ⟨n::ns,by simp [e1],by simp [e2]⟩
  ·cases h
theorem foldl_push (ns:List Int):∀ s:ByteArray,ns.foldl (fun r n=>r.push (UInt8.ofNat n.toNat)) s=⟨(s.data.toList++ns.map fun n=>UInt8.ofNat n.toNat).toArray⟩:=by
 induction ns with
 | nil=>intro s; obtain ⟨⟨l⟩⟩:=s; simp
 | cons n ns ih=>intro s; simp only [List.foldl_cons,ih]; obtain ⟨⟨l⟩⟩:=s; simp [ByteArray.push]
theorem convert_run (hC:C.Ok) {ρ:Ren} {h:Heap} {w:World} (H:HRel ρ h w) {src dst:TypeId} {v r:V} (hc:convert C h src dst v=some r) {x:Value} (hv:VRel ρ v x) :
  ∃ y,(Go.convert src dst x).run C.P w=.ok y w∧VRel ρ r y:=by
 unfold convert at hc
 replace hc:=of_bind hc
 obtain ⟨i,hi,hc⟩:=hc
 replace hc:=of_bind hc
 obtain ⟨j,hj,hc⟩:=hc
 obtain ⟨_,si⟩:=hC.spec hi
 obtain ⟨_,sj⟩:=hC.spec hj
 have hU:=si.und
 have hV:=sj.und
 split at hc
 ·rename_i e b off len cap op hd hd'
  replace hc:=of_bind hc
  obtain ⟨k,hk,hc⟩:=hc
  obtain ⟨_,sk⟩:=hC.spec hk
  have hW:=sk.und
  split at hc
  ·rename_i hd''
   replace hc:=of_bind hc
   obtain ⟨cs,hcs,hc⟩:=hc
   replace hc:=of_bind hc
   obtain ⟨bs,hbs,hc⟩:=hc
   cases hc
   rw [hd] at hU; rw [hd'] at hV; rw [hd''] at hW
   cases hv with | @slice _ _ _ _ c sh ex o _ hr hl ho=>
   have hv2:VRel ρ (.slice b off len len false) (.slice (some ⟨c,if len=0 then o else off+sh,none⟩) len len):=by
    have:=VRel.slice (ρ:=ρ) (off:=off) (len:=len) (cap:=len) (op:=false) (o:=if len=0 then o else off+sh) hr (Nat.le_refl _) (by
     simp only [xcap,Bool.false_eq_true,if_false,Nat.add_zero]; intro h0; rw [if_neg h0])
    simpa [xcap] using this
   obtain ⟨ys,f1,f2,f3,f4,f5⟩:=firstCells_run (C:=C) H hcs hv2
   have f6:=f5 _ _ _ rfl
   obtain ⟨ns,e1,e2⟩:=toBytes_rel hbs f3
   subst e1
   have e3:(if len=0 then o else off+sh)=o:=by
    split
    ·rfl
    ·exact (ho (by omega)).symm
   rw [e3,Nat.mul_one] at f6
   refine ⟨.string ⟨bs.toArray⟩,?_,.s _⟩
   rw [run_convert_bytes_string w src dst e _ _ _ hU hW hV,run_bytesToString w _ _ _ ns f6,foldl_push,e2]
   rfl
  ·cases hc
 ·rename_i e hd hd'
  replace hc:=of_bind hc
  obtain ⟨k,hk,hc⟩:=hc
  obtain ⟨_,sk⟩:=hC.spec hk
  have hW:=sk.und
  split at hc
  ·rename_i hd''
   cases hc
   cases hv
   rw [hd] at hU; rw [hd'] at hV; rw [hd''] at hW
   exact ⟨_,by rw [run_convert_bytes_string w src dst e _ _ _ hU hW hV]; rfl,.s _⟩
  ·cases hc
 ·cases hc
 ·cases hc
 ·have hd':=‹j.desc=TypeDesc.int _›
  cases hc
  cases hv
  rw [hd'] at hV
  refine ⟨_,?_,.s _⟩
  simp [Go.convert,run_underlying hU,run_underlying hV,Conv.intToInt,wrapF_eq]
 ·replace hc:=of_bind hc
  obtain ⟨y,hy,hc⟩:=hc
  cases hc
  cases hv
  exact ⟨y,pure?_run hy w,.s _⟩
 ·cases hc
theorem fillS_cons {fs:Array Field} {r r':Rope V} {i:Nat} {v:V} {rest:List (Nat×V)} (h:fillS C fs r ((i,v)::rest)=some r') :
  ∃ p cs,placeOf C fs i=some p∧v.cells=some cs∧cs.size=p.2.size∧p.1.offset+cs.size≤r.size∧fillS C fs (r.put p.1.offset cs) rest=some r':=by
 simp only [fillS] at h
 replace h:=of_bind h
 obtain ⟨p,hp,h⟩:=h
 replace h:=of_bind h
 obtain ⟨cs,hcs,h⟩:=h
 obtain ⟨g,h⟩:=of_cond_some h
 simp only [Bool.and_eq_true,beq_true_iff,ble_true_iff] at g
 exact ⟨p,cs,hp,hcs,g.1,g.2,h⟩
theorem fillA_cons {n:Nat} {r r':Rope V} {i:Nat} {v:V} {rest:List (Nat×V)} (h:fillA n r ((i,v)::rest)=some r') :
  ∃ cs,v.cells=some cs∧cs.size=n∧i*n+cs.size≤r.size∧fillA n (r.put (i*n) cs) rest=some r':=by
 simp only [fillA] at h
 replace h:=of_bind h
 obtain ⟨cs,hcs,h⟩:=h
 obtain ⟨g,h⟩:=of_cond_some h
 simp only [Bool.and_eq_true,beq_true_iff,ble_true_iff] at g
 exact ⟨cs,hcs,g.1,g.2,h⟩
theorem fillA_run {ρ:Ren} {n:Nat} {parts:List (Nat×V)} {ps:List (Nat×Value)} {r r':Rope V} {xs:List Value} (hp:NRels ρ parts ps) (hf:fillA n r parts=some r') (hok:r.Ok)
  (hr:VRels ρ r.toList xs) (hc:∀ x∈xs,x.oneCell'=true) :
  ∃ ys:List Value,Instr.fill (fun i=>some (i*n,n)) xs.toArray ps=some ys.toArray∧r'.Ok∧VRels ρ r'.toList ys∧(∀ y∈ys,y.oneCell'=true):=
 fill_rel (fun i=>some (i*n,n)) (fillA n) (fun r r' h=>by simp [fillA] at h; exact h.symm)
  (fun r r' i v rest h=>by
   obtain ⟨cs,a,b,c,d⟩:=fillA_cons h
   exact ⟨i*n,n,cs,rfl,a,b,by omega,d⟩) hp hf hok hr hc
theorem fillS_run {ρ:Ren} {fs:Array Field} {pl:Array (Nat×Nat)} (hpl:∀ (k:Nat) (f:Field) (i:Ty),fs[k]? = some f→ty C f.type=some i→pl[k]? = some (f.offset,i.size))
  {parts:List (Nat×V)} {ps:List (Nat×Value)} {r r':Rope V} {xs:List Value} (hp:NRels ρ parts ps) (hf:fillS C fs r parts=some r') (hok:r.Ok)
  (hr:VRels ρ r.toList xs) (hc:∀ x∈xs,x.oneCell'=true) :
  ∃ ys:List Value,Instr.fill (pl[·]?) xs.toArray ps=some ys.toArray∧r'.Ok∧VRels ρ r'.toList ys∧(∀ y∈ys,y.oneCell'=true):=
 fill_rel (pl[·]?) (fillS C fs) (fun r r' h=>by simp [fillS] at h; exact h.symm)
  (fun r r' i v rest h=>by
   obtain ⟨p,cs,a,b,c,d,e⟩:=fillS_cons h
   obtain ⟨a1,a2⟩:=placeOf_rel a
   exact ⟨p.1.offset,p.2.size,cs,hpl i p.1 p.2 a1 a2,b,c,by omega,e⟩) hp hf hok hr hc
theorem build_run (hC:C.Ok) {ρ:Ren} {t:TypeId} {parts:List (Nat×V)} {r:V} (h:build C t parts=some r) {ps:Array (Nat×Value)} (hp:NRels ρ parts ps.toList) (w:World) :
  ∃ y,(Instr.build t ps).run C.P w=.ok y w∧VRel ρ r y:=by
 unfold build at h
 replace h:=of_bind h
 obtain ⟨i,hi,h⟩:=h
 replace h:=of_bind h
 obtain ⟨z,hz,h⟩:=h
 replace h:=of_bind h
 obtain ⟨zs,hzs,h⟩:=h
 obtain ⟨_,sp⟩:=hC.spec hi
 have hU:=sp.und
 obtain ⟨y,z1,z2,_⟩:=sp.run_zero hz ρ w
 obtain ⟨c1,c2,c3⟩:=z2.cells hzs
 split at h
 ·rename_i fs hd
  replace h:=of_bind h
  obtain ⟨r',hr',h⟩:=h
  cases h
  rw [hd] at hU
  obtain ⟨pl,p1,p2⟩:=run_places hC fs w (hC.fields t i fs hi hd)
  obtain ⟨ys,k1,k2,k3,k4⟩:=fillS_run p2 hp hr' c1 c2 c3
  refine ⟨.agg ys.toArray,?_,.agg k2 k3 k4⟩
  simp only [Instr.build,Sem.run_bind,z1,Result.andThen_ok,run_underlying hU,p1]
  rw [show y.cells=y.cells.toList.toArray from by simp,k1]
  rfl
 ·rename_i n e hd
  replace h:=of_bind h
  obtain ⟨j,hj,h⟩:=h
  replace h:=of_bind h
  obtain ⟨r',hr',h⟩:=h
  cases h
  rw [hd] at hU
  obtain ⟨_,sj⟩:=hC.spec hj
  obtain ⟨ys,k1,k2,k3,k4⟩:=fillA_run hp hr' c1 c2 c3
  refine ⟨.agg ys.toArray,?_,.agg k2 k3 k4⟩
  simp only [Instr.build,Sem.run_bind,z1,Result.andThen_ok,run_underlying hU,sj.run_size]
  rw [show y.cells=y.cells.toList.toArray from by simp,k1]
  rfl
 ·cases h
end Go.Ev
end
