import Derived.Test.YtaigdhieijndgaaGreatMQ23
import Derived.Test.YtaigdhieijndgaaGreatMQ21
section
namespace Go.Ev
open Proofs
set_option maxRecDepth 20000
noncomputable def lenOk (l:Nat):Bool:=match answersOne (Ctx.of Tryz.prog 0) 160 [.int .u64 (l:Nat)] with
 | some (.int .i64 _)=>true
 | _=>false
theorem lens:(List.range 65).all (fun l=>lenOk l)=true:=by kernel_rfl
theorem bitsLen_ok (l:Nat) (h2:l≤64) (h:Heap) (n:Nat):CallK CC 160 [.s (.int .u64 (l:Nat))] h n fun v h' n'=>(∃ x:Int,v=.s (.int .i64 x))∧h'=h:=by
 have:=List.all_eq_true.1 lens l (by simp; omega)
 unfold lenOk at this
 cases ha:answersOne (Ctx.of Tryz.prog 0) 160 [.int .u64 (l:Nat)] with
 | none=>rw [ha] at this; simp at this
 | some v=>
  rw [ha] at this
  refine CallK.mono' ?_ (closedOne typesFine namesFine mixedFine ha h n)
  rintro _ _ _ ⟨rfl,rfl,_⟩
  split at this
  ·rename_i x e
   cases e
   exact ⟨⟨_,rfl⟩,rfl⟩
  ·cases this
def leK (a b:List Int):Bool:=decide (a≤b)
def sortK (ks:List (List Int)):List (List Int):=ks.mergeSort leK
theorem sortK_perm (ks:List (List Int)):(sortK ks).Perm ks:=List.mergeSort_perm _ _
theorem sortK_rises (ks:List (List Int)):(sortK ks).Pairwise fun a b=>a≤b:=by
 have:=List.pairwise_mergeSort (le:=leK) (fun a b c h1 h2=>decide_eq_true (leI_trans (of_decide_eq_true h1) (of_decide_eq_true h2))) (fun a b=>by
  rcases leI_total a b with h | h
  ·simp [leK,h]
  ·simp [leK,h]) ks
 exact this.imp fun h=>of_decide_eq_true h
theorem sortK_uniq {ks l:List (List Int)} (hp:l.Perm ks) (hr:l.Pairwise fun a b=>a≤b):l=sortK ks:=
 List.Perm.eq_of_pairwise (fun _ _ _ _ h1 h2=>leI_antisymm h1 h2) hr (sortK_rises ks) (hp.trans (sortK_perm ks).symm)
def keyInt:V→Int
 | .s (.int _ x)=>x
 | _=>0
def keyOfV (h:Heap):V→List Int
 | .slice b _ l _ _=>match h.get b with
  | some (.cells (.lst A) _)=>(A.take l).map keyInt
  | _=>[]
 | _=>[]
theorem keyOfV_ok {h:Heap} {b:Nat} {k:List Int} (hg:h.get b=some (.cells (.lst (bytesV' k)) 1)):keyOfV h (.slice b 0 k.length k.length true)=k:=by
 simp only [keyOfV,hg]
 rw [bytes_take]
 simp only [bytesV',List.map_map]
 have:(keyInt ∘ fun x=>V.s (Value.int IntKind.u8 x))=id:=rfl
 rw [this,List.map_id]
theorem pdqNil_ok (lim:Int) (h:Heap) (n:Nat):CallK CC 159 [.s (.slice none 0 0),.s (.int .i64 0),.s (.int .i64 0),.s (.int .i64 lim),cmpF] h n fun _ h' n'=>h'=h:=by
 refine F159_call fun hlt=>?_
 rw [F159_eq]
 refine loop_onceF CCok F159_L1100_of ?_
 rintro _ ⟨g,rfl⟩
 rw [F159_b1100]
 have e0:wrapF .i64 0=0:=by rw [wrapF_i64 (by omega) (by omega)]
 simp [e0]
 refine CallK.monoN (K:=fun _ h' _=>h'=h) ?_ ?_
 ·rintro _ h' n' rfl hn'
  simp [roundQ,resume,retW,dropDefs]
 ·refine F198_call fun hlt=>?_
  rw [F198_eq]
  have e1:wrapF .i64 1=1:=by rw [wrapF_i64 (by omega) (by omega)]
  simp [e1]
  refine loop_onceF CCok F198_L100_of ?_
  rintro _ ⟨g,rfl⟩
  rw [F198_b100]
  simp [roundQ]
  refine via (R:=resume CC none _ _ (.exit 0)) F198_L100_of ?_
  rintro _ ⟨g,rfl⟩
  rw [F198_r100_0]
theorem sortFunc_ok {n0 n:Nat} {h:Heap} {v:V} {ks:List (List Int)} (hn:n0≤n) (hK:KeysAt n0 n h v ks) (hB:∀ k∈ks,Byt k) (hl:ks.length≤64) :
  CallK CC 111 [v,cmpF] h n fun _ h' n'=>KeysAt n0 n' h' v (sortK ks)∧Same n0 [] h h':=by
 refine F111_call fun hlt=>?_
 rw [F111_eq]
 obtain ⟨a,vs,hG,h00,⟨hvl,hvs⟩,ha,hor⟩:=hK
 rcases hG with ⟨rfl,q2,q3⟩ | ⟨o,c,op,A,rfl,q2,q3,q4,q5,q6⟩
 ·have:ks=[]:=List.length_eq_zero_iff.1 q2
  subst this; subst q3
  have e0:wrapF .u64 0=0:=by rw [wrapF_u64 (by omega) (by omega)]
  simp [e0]
  refine CallK.monoN ?_ (bitsLen_ok 0 (by omega) h n)
  rintro _ h1 n1 ⟨⟨x,rfl⟩,e1⟩ hn1
  obtain rfl:h=h1:=e1.symm
  refine CallK.monoN ?_ (pdqNil_ok x h n1)
  rintro _ h2 n2 e2 hn2
  obtain rfl:h=h2:=e2.symm
  have e3:sortK []=[]:=by simp [sortK]
  rw [e3]
  exact ⟨⟨a,[],.inl ⟨rfl,rfl,rfl⟩,Off0.nil,KeysIn.nil _ _ _ _,ha,.inr rfl⟩,Same.refl _ _ _⟩
 ·obtain rfl:o=0:=h00 _ _ _ _ _ rfl
  have han:a<n:=by
   rcases hor with h | h
   ·exact h
   ·cases h
  obtain ⟨N,hN⟩:∃ N,N=ks.length:=⟨_,rfl⟩
  have eA:A.take N=vs:=by rw [← q6,hN,List.drop_zero,Nat.mul_one]
  have hAl:N≤A.length:=by omega
  have hat:∀ i,i<N→∃ k b,ks[i]? = some k∧A[i]? = some (.slice b 0 k.length k.length true)∧n0≤b∧b<n∧b≠a∧h.get b=some (.cells (.lst (bytesV' k)) 1):=fun i hi=>by
   obtain ⟨k,hk⟩:∃ k,ks[i]? = some k:=⟨ks[i]'(by omega),List.getElem?_eq_getElem _⟩
   obtain ⟨b,r1,r2,r3,r4,r5⟩:=hvs i k hk
   refine ⟨k,b,hk,?_,r2,r3,r4,r5⟩
   rw [← eA,List.getElem?_take_of_lt hi] at r1
   exact r1
  have S:Srt h n a N (keyOfV h) A h:=⟨q3,hAl,fun _ _ _=>rfl,fun p w hp hw=>by
   obtain ⟨k,b,r1,r2,r3,r4,r5,r6⟩:=hat p hp
   rw [r2] at hw; cases hw
   refine ⟨b,r4,r5,?_,?_⟩
   ·rw [keyOfV_ok r6]
    exact .inr ⟨0,k.length,true,_,1,rfl,by simp [cellsAt,r6]; rfl,by rw [Nat.mul_one,List.drop_zero,bytes_take],by simp⟩
   ·rw [keyOfV_ok r6]; exact hB k (List.mem_of_getElem? r1)⟩
  have e0:wrapF .u64 (N:Int)=(N:Int):=by rw [wrapF_u64 (by omega) (by omega)]
  rw [← hN]
  simp [e0]
  refine CallK.monoN ?_ (bitsLen_ok N (by omega) h n)
  rintro _ h1 n1 ⟨⟨x,rfl⟩,e1⟩ hn1
  obtain rfl:h=h1:=e1.symm
  have hp:=pdq_ok (c:=c) (op:=op) (by omega) (N+1) 0 N x A h n1 (by omega) (by omega) (Nat.le_refl _) S (by omega) (fun h=>by omega)
  refine CallK.monoN ?_ hp
  rintro _ h2 n2 ⟨L,S2,P,Q⟩ hn2
  have hLl:=S2.len
  have pv:(L.take N).Perm vs:=by
   have:=P.seg (Nat.zero_le N)
   rw [List.drop_zero,List.drop_zero,Nat.sub_zero,eA] at this
   exact this
  have hks:vs.map (keyOfV h)=ks:=by
   apply List.ext_getElem?
   intro i
   rw [List.getElem?_map]
   by_cases hi:i<N
   ·obtain ⟨k,b,r1,r2,r3,r4,r5,r6⟩:=hat i hi
    rw [← eA,List.getElem?_take_of_lt hi,r2,r1]
    exact congrArg some (keyOfV_ok r6)
   ·rw [List.getElem?_eq_none (by omega),List.getElem?_eq_none (by omega)]; rfl
  have e:(L.take N).map (keyOfV h)=sortK ks:=by
   refine sortK_uniq (by rw [← hks]; exact pv.map _) ?_
   rw [List.pairwise_iff_getElem]
   intro i j hi hj hij
   simp at hi hj
   have:=Q i j (Nat.zero_le _) hij (by omega)
   simpa [kx,List.getD_eq_getElem?_getD,List.getElem?_eq_getElem (show i<L.length by omega),List.getElem?_eq_getElem (show j<L.length by omega)] using this
  have hsl:(sortK ks).length=N:=by rw [(sortK_perm ks).length_eq,hN]
  refine ⟨⟨a,L.take N,.inr ⟨0,c,op,L,by rw [hsl],by rw [hsl]; omega,S2.get,by rw [P.len]; exact q4,fun ho=>by rw [P.len]; exact q5 ho,by rw [hsl,List.drop_zero,Nat.mul_one]⟩,fun _ _ _ _ _ e=>by cases e; rfl,⟨by rw [hsl]; simp; omega,fun i k hi=>?_⟩,ha,.inl (by omega)⟩,fun x hx _=>S2.same x (by omega) (by omega)⟩
  have hiN:i<N:=by have:=(List.getElem?_eq_some_iff.1 hi).1; omega
  rw [← e,List.getElem?_map] at hi
  cases hv:(L.take N)[i]? with
  | none=>rw [hv] at hi; cases hi
  | some w=>
   rw [hv] at hi
   have hw:w∈vs:=pv.mem_iff.1 (List.mem_of_getElem? hv)
   obtain ⟨j,hj⟩:=List.mem_iff_getElem?.1 hw
   have hjN:j<N:=by have:=(List.getElem?_eq_some_iff.1 hj).1; omega
   obtain ⟨k',b,r1,r2,r3,r4,r5,r6⟩:=hat j hjN
   rw [← eA,List.getElem?_take_of_lt hjN,r2] at hj
   cases hj
   simp at hi
   rw [keyOfV_ok r6] at hi
   subst hi
   exact ⟨b,rfl,r3,by omega,r5,by rw [S2.same b r4 r5]; exact r6⟩
end Go.Ev
end
section
namespace Go.Ev
open Proofs
set_option maxRecDepth 20000
theorem ta_aa (a:Nat):typeAssert CC (.iface 180 (.ptr a 0)) 180 true=some (.tup [.ptr a 0,.s (.bool true)]):=by kernel_rfl
theorem ta_al (a:Nat):typeAssert CC (.iface 180 (.ptr a 0)) 184 true=some (.tup [.s (.pointer none),.s (.bool false)]):=by kernel_rfl
theorem ta_ah (a:Nat):typeAssert CC (.iface 180 (.ptr a 0)) 182 true=some (.tup [.s (.pointer none),.s (.bool false)]):=by kernel_rfl
theorem least_some (l:List String) (h:l≠[]):∃ m,Instr.least l=some m:=by
 cases l with
 | nil=>exact absurd rfl h
 | cons a l=>exact ⟨_,rfl⟩
theorem parts {α β:Type} (p:α→Bool) (f:α→β) (g:List β→Option β) (k:List α→Option β) (hg:∀ l,l≠[]→∃ m,g l=some m) (hk:∀ l,l≠[]→∃ m,k l=some m) (ms:List α) (h:ms≠[]) :
  ∃ m,((k (ms.partition p).2 <|> g ((ms.partition p).1.map f)):Option β)=some m:=by
 rw [List.partition_eq_filter_filter]
 simp only
 by_cases he:List.filter (not ∘ p) ms=[]
 ·have hu:(List.filter p ms).map f≠[]:=by
   cases ms with
   | nil=>exact absurd rfl h
   | cons a l=>
    rw [List.filter_eq_nil_iff] at he
    have:=he a (by simp)
    simp at this
    simp [this]
  obtain ⟨m,hm⟩:=hg _ hu
  cases k (List.filter (not ∘ p) ms) with
  | none=>exact ⟨m,by rw [hm]; rfl⟩
  | some x=>exact ⟨x,rfl⟩
 ·obtain ⟨m,hm⟩:=hk _ he
  exact ⟨m,by rw [hm]; rfl⟩
theorem missing_some (want:Array (String×TypeId)) (got:Array Method) (h:(want.toList.filter fun (x:String×TypeId)=>!got.any fun m=>m.name == x.1 && m.sig == x.2)≠[]):∃ m,Instr.missingMethod want got=some m:=by
 unfold Instr.missingMethod
 exact parts _ _ _ _ (fun l hl=>least_some l hl) (fun l hl=>least_some l hl) _ (by simpa using h)
def wantOf:TypeDesc→Array (String×TypeId)
 | .interface w=>w
 | _=>#[]
theorem ta_fail {x t:TypeId} {v:V} {i j:Ty} {w:Array (String×TypeId)} (hi:ty CC x=some i) (hd:i.desc=.interface w) (hz:i.zero=some (.s .nilIface)) (hj:ty CC t=some j)
  (h:(w.toList.filter fun (y:String×TypeId)=>!j.methods.toArray.any fun m=>m.name == y.1 && m.sig == y.2)≠[]):typeAssert CC (.iface t v) x true=some (.tup [.s .nilIface,.s (.bool false)]):=by
 obtain ⟨m,hm⟩:=missing_some w j.methods.toArray h
 simp only [typeAssert,hi,hj,Option.bind_some,hd,hm,hz,cond_true]
theorem ta_ak (a:Nat):typeAssert CC (.iface 180 (.ptr a 0)) 133 true=some (.tup [.s .nilIface,.s (.bool false)]):=by
 have e1:∃ i,ty CC 133=some i∧i.desc=.interface (wantOf i.desc)∧i.zero=some (.s .nilIface)∧∃ j,ty CC 180=some j∧(((wantOf i.desc).toList.filter fun (y:String×TypeId)=>!j.methods.toArray.any fun m=>m.name == y.1 && m.sig == y.2)).length=3:=by
  refine ⟨(ty CC 133).get!,by kernel_rfl,by kernel_rfl,by kernel_rfl,(ty CC 180).get!,by kernel_rfl,by kernel_rfl⟩
 obtain ⟨i,h1,h2,h3,j,h4,h5⟩:=e1
 exact ta_fail h1 h2 h3 h4 (by intro e; rw [e] at h5; cases h5)
theorem ta_ha (a:Nat):typeAssert CC (.iface 182 (.ptr a 0)) 180 true=some (.tup [.s (.pointer none),.s (.bool false)]):=by kernel_rfl
theorem ta_hl (a:Nat):typeAssert CC (.iface 182 (.ptr a 0)) 184 true=some (.tup [.s (.pointer none),.s (.bool false)]):=by kernel_rfl
theorem ta_hh (a:Nat):typeAssert CC (.iface 182 (.ptr a 0)) 182 true=some (.tup [.ptr a 0,.s (.bool true)]):=by kernel_rfl
theorem ta_hk (a:Nat):typeAssert CC (.iface 182 (.ptr a 0)) 133 true=some (.tup [.iface 182 (.ptr a 0),.s (.bool true)]):=by kernel_rfl
theorem ta_la (a:Nat):typeAssert CC (.iface 184 (.ptr a 0)) 180 true=some (.tup [.s (.pointer none),.s (.bool false)]):=by kernel_rfl
theorem ta_ll (a:Nat):typeAssert CC (.iface 184 (.ptr a 0)) 184 true=some (.tup [.ptr a 0,.s (.bool true)]):=by kernel_rfl
theorem ta_lh (a:Nat):typeAssert CC (.iface 184 (.ptr a 0)) 182 true=some (.tup [.s (.pointer none),.s (.bool false)]):=by kernel_rfl
theorem ta_lk (a:Nat):typeAssert CC (.iface 184 (.ptr a 0)) 133 true=some (.tup [.iface 184 (.ptr a 0),.s (.bool true)]):=by kernel_rfl
theorem ta_na:typeAssert CC (.s .nilIface) 180 true=some (.tup [.s (.pointer none),.s (.bool false)]):=by kernel_rfl
theorem ta_nl:typeAssert CC (.s .nilIface) 184 true=some (.tup [.s (.pointer none),.s (.bool false)]):=by kernel_rfl
theorem ta_nh:typeAssert CC (.s .nilIface) 182 true=some (.tup [.s (.pointer none),.s (.bool false)]):=by kernel_rfl
theorem ta_nk:typeAssert CC (.s .nilIface) 133 true=some (.tup [.s .nilIface,.s (.bool false)]):=by kernel_rfl
theorem inv_hf (a:Nat) (args:List V) (h:Heap) (n:Nat) (K:V→Heap→Nat→Prop):invokeW CC (.iface 182 (.ptr a 0)) "Find" args h n K=CallK CC 245 (.ptr a 0::args) h n K:=by
 have:methodOf CC 182 (.ptr a 0) "Find"=some (245,.ptr a 0):=by kernel_rfl
 simp only [invokeW,this,oK_some]
theorem inv_lf (a:Nat) (args:List V) (h:Heap) (n:Nat) (K:V→Heap→Nat→Prop):invokeW CC (.iface 184 (.ptr a 0)) "Find" args h n K=CallK CC 248 (.ptr a 0::args) h n K:=by
 have:methodOf CC 184 (.ptr a 0) "Find"=some (248,.ptr a 0):=by kernel_rfl
 simp only [invokeW,this,oK_some]
theorem inv_hd (a:Nat) (args:List V) (h:Heap) (n:Nat) (K:V→Heap→Nat→Prop):invokeW CC (.iface 182 (.ptr a 0)) "Del" args h n K=CallK CC 244 (.ptr a 0::args) h n K:=by
 have:methodOf CC 182 (.ptr a 0) "Del"=some (244,.ptr a 0):=by kernel_rfl
 simp only [invokeW,this,oK_some]
theorem inv_ld (a:Nat) (args:List V) (h:Heap) (n:Nat) (K:V→Heap→Nat→Prop):invokeW CC (.iface 184 (.ptr a 0)) "Del" args h n K=CallK CC 247 (.ptr a 0::args) h n K:=by
 have:methodOf CC 184 (.ptr a 0) "Del"=some (247,.ptr a 0):=by kernel_rfl
 simp only [invokeW,this,oK_some]
theorem inv_hk (a:Nat) (args:List V) (h:Heap) (n:Nat) (K:V→Heap→Nat→Prop):invokeW CC (.iface 182 (.ptr a 0)) "Keys" args h n K=CallK CC 246 (.ptr a 0::args) h n K:=by
 have:methodOf CC 182 (.ptr a 0) "Keys"=some (246,.ptr a 0):=by kernel_rfl
 simp only [invokeW,this,oK_some]
theorem inv_lk (a:Nat) (args:List V) (h:Heap) (n:Nat) (K:V→Heap→Nat→Prop):invokeW CC (.iface 184 (.ptr a 0)) "Keys" args h n K=CallK CC 249 (.ptr a 0::args) h n K:=by
 have:methodOf CC 184 (.ptr a 0) "Keys"=some (249,.ptr a 0):=by kernel_rfl
 simp only [invokeW,this,oK_some]
theorem within_ok (a lo hi:Int) (h:Heap) (n:Nat):CallK CC 98 [.s (.int .i64 a),.s (.int .i64 lo),.s (.int .i64 hi)] h n fun v h' n'=>v=.s (.bool (decide (lo≤a∧a≤hi)))∧h'=h:=by
 refine F98_call fun hlt=>?_
 rw [F98_eq]
 by_cases h1:lo≤a <;> simp [h1]
def MayR (kind key val mx:Int):Prop:=1≤key∧key≤16∧1≤val∧val≤64∧1≤mx∧mx≤64∧((kind=1∨kind=4)→key=4)∧(kind=4→val=4)
instance (kind key val mx:Int):Decidable (MayR kind key val mx):=by unfold MayR; infer_instance
theorem may_ok (kind key val mx:Int) (h:Heap) (n:Nat):CallK CC 99 [.agg (.lst [.s (.int .i64 kind),.s (.int .i64 key),.s (.int .i64 val),.s (.int .i64 mx)])] h n fun v h' n'=>
  v=.s (.bool (decide (MayR kind key val mx)))∧Same n [] h h':=by
 refine F99_call fun hlt=>?_
 rw [F99_eq]
 have hsm:Same n [] h (h.set n (.cells (.lst [.s (.int .i64 kind),.s (.int .i64 key),.s (.int .i64 val),.s (.int .i64 mx)]) 4)):=Same.new _ _ _ _
 have hg:(h.set n (.cells (.lst [.s (.int .i64 kind),.s (.int .i64 key),.s (.int .i64 val),.s (.int .i64 mx)]) 4)).get n=some (.cells (.lst [.s (.int .i64 kind),.s (.int .i64 key),.s (.int .i64 val),.s (.int .i64 mx)]) 4):=by rw [Tree.get_set,if_pos rfl]
 simp only [cells_agg,oK_some,Rope.toList_lst]
 generalize (h.set n (.cells (.lst [.s (.int .i64 kind),.s (.int .i64 key),.s (.int .i64 val),.s (.int .i64 mx)]) 4))=h1 at hsm hg ⊢
 simp [cellsAt,hg]
 have yes:MayR kind key val mx→decide (MayR kind key val mx)=true:=fun h=>decide_eq_true h
 have no:¬ MayR kind key val mx→decide (MayR kind key val mx)=false:=fun h=>decide_eq_false h
 by_cases k1:kind=1
 all_goals
  simp [k1,cellsAt,hg]
  refine CallK.monoN ?_ (within_ok _ _ _ _ _)
  rintro _ h2 n2 ⟨rfl,e2⟩ hn2
  obtain rfl:h1=h2:=e2.symm
  by_cases a1:1≤key∧key≤16
  ·simp [a1,cellsAt,hg]
   refine CallK.monoN ?_ (within_ok _ _ _ _ _)
   rintro _ h2 n2 ⟨rfl,e2⟩ hn2
   obtain rfl:h1=h2:=e2.symm
   by_cases a2:1≤val∧val≤64
   ·simp [a2,cellsAt,hg]
    refine CallK.monoN ?_ (within_ok _ _ _ _ _)
    rintro _ h2 n2 ⟨rfl,e2⟩ hn2
    obtain rfl:h1=h2:=e2.symm
    by_cases a3:1≤mx∧mx≤64
    ·by_cases a4:key=4
     ·by_cases a5:kind=4 <;> (simp [a2,a3,a4,a5,cellsAt,hg,k1,MayR] <;> first | exact hsm | exact ⟨by omega,hsm⟩)
     ·by_cases a5:kind=4 <;> (simp [a1,a2,a3,a4,a5,cellsAt,hg,k1,MayR] <;> first | exact hsm | exact ⟨by omega,hsm⟩)
    ·have:¬ MayR kind key val mx:=fun h=>a3 ⟨h.2.2.2.2.1,h.2.2.2.2.2.1⟩
     try rw [k1] at this
     simp [a3,this]
     exact hsm
   ·have:¬ MayR kind key val mx:=fun h=>a2 ⟨h.2.2.1,h.2.2.2.1⟩
    try rw [k1] at this
    simp [a2,this]
    exact hsm
  ·have:¬ MayR kind key val mx:=fun h=>a1 ⟨h.1,h.2.1⟩
   try rw [k1] at this
   simp [a1,this]
   exact hsm
end Go.Ev
end
section
namespace Go.Ev
open Proofs
set_option maxRecDepth 20000
inductive ByM where
 | progs (l:List Int)
 | arr (ids:List Int)
 | hash (R:HashR)
 | lru (key most:Nat) (rows:List (List Int×Int))
structure OneM where
 d:DeclR
 by_:ByM
structure MM where
 C:CM
 last:Int
 ones:List OneM
 now:Int
 ev:List EvR
def ByR (τ:Gh) (i:Nat):ByP→ByM→Prop
 | .progs l,.progs l'=>l=l'
 | .arr a,.arr ids=>τ a=some (.arr i ids)
 | .hash a,.hash R=>τ a=some (.hash i R)
 | .lru a,.lru key most rows=>τ a=some (.lru i key most rows)
 | _,_=>False
def OneR (τ:Gh) (i p:Nat) (o:OneM):Prop:=∃ by_,τ p=some (.one i o.d by_)∧ByR τ i by_ o.by_
structure OneM.Fine (o:OneM):Prop where
 may:MayR o.d.kind o.d.key o.d.val o.d.mx
 by_:match o.by_ with
  | .progs l=>o.d.kind=4∧(l.length:Int)=o.d.mx
  | .arr ids=>o.d.kind=1∧(ids.length:Int)=o.d.mx
  | .hash R=>o.d.kind=2∧(R.key:Int)=o.d.key∧R.mx=o.d.mx∧R.Fine
  | .lru key most rows=>o.d.kind=3∧(key:Int)=o.d.key∧(most:Int)=o.d.mx∧∀ r∈rows,Byt r.1∧r.1.length≤16
structure MapsX (τ:Gh) (m c:Nat) (L:List Nat) (X:MM):Prop where
 m0:τ m=some (.maps c L X.now X.ev)
 cs:CellsR τ c X.C X.last
 len:L.length=X.ones.length
 one:∀ i p o,L[i]? = some p→X.ones[i]? = some o→OneR τ i p o
 fine:∀ o∈X.ones,o.Fine
 l8:L.length≤8
 la0:0≤X.last
def idxFp (i:Nat):Fp:=fun _ k=>match k with
 | .arr j _=>j=i
 | .hash j _=>j=i
 | .lru j _ _ _=>j=i
 | .one j _ _=>j=i
 | _=>False
theorem ByR.keep {τ τ':Gh} {fp:Fp} {h h':Heap} {n i:Nat} {b:ByP} {m:ByM} (H:ByR τ i b m) (I:TInv τ h n) (K:Keep fp τ τ' n h h') (hf:∀ b k,τ b=some k→idxFp i b k→¬ fp b k):ByR τ' i b m:=by
 cases b <;> cases m <;> first | exact H | exact K.ty _ _ (I _ _ H).1 H (.inl (hf _ _ H rfl)) | exact H.elim
theorem OneR.keep {τ τ':Gh} {fp:Fp} {h h':Heap} {n i p:Nat} {o:OneM} (H:OneR τ i p o) (I:TInv τ h n) (K:Keep fp τ τ' n h h') (hf:∀ b k,τ b=some k→idxFp i b k→¬ fp b k):OneR τ' i p o:=by
 obtain ⟨b,h1,h2⟩:=H
 exact ⟨b,K.ty _ _ (I _ _ h1).1 h1 (.inl (hf _ _ h1 rfl)),h2.keep I K hf⟩
theorem idx_cell {i b:Nat} {k:Ob}:idxFp i b k→¬ cellFp b k:=by cases k <;> simp [idxFp,cellFp]
theorem idx_ne {i j b:Nat} {k:Ob} (h:i≠j):idxFp i b k→¬ idxFp j b k:=by cases k <;> simp [idxFp] <;> omega
theorem MapsX.cells {τ τ':Gh} {h h':Heap} {n m c:Nat} {L:List Nat} {X:MM} {C:CM} {last:Int} (H:MapsX τ m c L X) (I:TInv τ h n) (K:Keep cellFp τ τ' n h h') (R:CellsR τ' c C last) (h0:0≤last):MapsX τ' m c L { X with C:=C,last:=last }:=
 ⟨K.ty _ _ (I _ _ H.m0).1 H.m0 (.inl id),R,H.len,fun i p o h1 h2=>(H.one i p o h1 h2).keep I K fun _ _ _=>idx_cell,H.fine,H.l8,h0⟩
theorem MapsX.same {τ τ':Gh} {h h':Heap} {n m c:Nat} {L:List Nat} {X:MM} (H:MapsX τ m c L X) (I:TInv τ h n) (K:Keep noFp τ τ' n h h'):MapsX τ' m c L X:=
 ⟨K.ty _ _ (I _ _ H.m0).1 H.m0 (.inl id),H.cs.keep I K (fun _ _ _ _ h=>h.elim),H.len,fun i p o h1 h2=>(H.one i p o h1 h2).keep I K (fun _ _ _ _ h=>h.elim),H.fine,H.l8,H.la0⟩
theorem MapsX.at_ {τ τ':Gh} {h h':Heap} {n m c i p:Nat} {L:List Nat} {X:MM} {o:OneM} (H:MapsX τ m c L X) (I:TInv τ h n) (K:Keep (idxFp i) τ τ' n h h') (hi:L[i]? = some p) (ho:OneR τ' i p o) (hF:o.Fine):MapsX τ' m c L { X with ones:=X.ones.set i o }:=by
 refine ⟨K.ty _ _ (I _ _ H.m0).1 H.m0 (.inl id),H.cs.keep I K (fun _ _ _ h1 h2=>idx_cell h2 h1),by simp [H.len],fun j q o' h1 h2=>?_,fun o' ho'=>?_,H.l8,H.la0⟩
 ·simp only [List.getElem?_set] at h2
  by_cases hj:i=j
  ·subst hj
   rw [hi] at h1; cases h1
   rw [if_pos rfl] at h2
   split at h2
   ·cases h2; exact ho
   ·cases h2
  ·rw [if_neg hj] at h2
   exact (H.one j q o' h1 h2).keep I K fun _ _ _ h1 h2=>idx_ne hj h2 h1
 ·rcases List.mem_or_eq_of_mem_set ho' with h | h
  ·exact H.fine o' h
  ·rw [h]; exact hF
theorem MapsX.set_id {τ:Gh} {m c i:Nat} {L:List Nat} {X:MM} {o:OneM} (hi:X.ones[i]? = some o):({ X with ones:=X.ones.set i o }:MM)=X:=by
 have:X.ones.set i o=X.ones:=by
  apply List.ext_getElem?
  intro j
  rw [List.getElem?_set]
  split
  ·rename_i h; subst h
   have h1:=(List.getElem?_eq_some_iff.1 hi).1
   rw [if_pos h1,hi]
  ·rfl
 rw [this]
def MM.at (X:MM) (id:Int):Option OneM:=if 1≤id∧id≤(X.ones.length:Nat) then X.ones[(id-1).toNat]? else none
def idxOf (id:Int):Nat:=(id-1).toNat
theorem MM.at_some {X:MM} {id:Int} {o:OneM} (h:X.at id=some o):(1≤id∧id≤(X.ones.length:Nat))∧X.ones[idxOf id]? = some o:=by
 unfold MM.at at h
 split at h
 ·exact ⟨by assumption,h⟩
 ·cases h
theorem growM_norm {τ:Gh} {h:Heap} {b i k n:Nat} {v:V} {cs:List V} (H:GrowM τ h b i v k n cs):normV v=v∧V.cells v=some (.one v):=by
 rcases H with ⟨rfl,_⟩ | ⟨_,d,_,⟨rfl,_⟩ | ⟨o,c,op,A,rfl,_⟩⟩ <;> exact ⟨rfl,rfl⟩
def AtP (h:Heap) (L:List Nat) (X:MM) (id:Int) (v:V):Prop:=(v=.s (.pointer none)∧X.at id=none)∨∃ p o,v=.ptr p 0∧X.at id=some o∧L[idxOf id]? = some p
theorem at_ok {τ:Gh} {h:Heap} {n m c:Nat} {L:List Nat} {X:MM} (I:TInv τ h n) (H:MapsX τ m c L X) (id:Int) :
  CallK CC 49 [.ptr m 0,.s (.int .i64 id)] h n fun v h' n'=>AtP h L X id v∧h'=h:=by
 refine F49_call fun hlt=>?_
 rw [F49_eq]
 obtain ⟨lv,ev,es,hm,hL,hE,hEs⟩:=(I m _ H.m0).2
 have l8:=H.l8
 have hll:=H.len
 have nl:=growM_norm hL
 have hlen2:lenV CC h 118 lv=some (.s (.int .i64 (L.length:Nat))):=by
  rcases hL with ⟨rfl,h0,_⟩ | ⟨_,d,_,⟨rfl,h0,_⟩ | ⟨o,k,op,A,rfl,_⟩⟩
  ·simp [h0]
  ·simp [h0]
  ·simp
 simp [cellsAt,hm,nl.1,hlen2]
 refine CallK.monoN ?_ (within_ok _ _ _ _ _)
 rintro _ h1 n1 ⟨rfl,e1⟩ hn1
 obtain rfl:h=h1:=e1.symm
 by_cases hid:1≤id∧id≤(L.length:Nat)
 ·obtain ⟨i,rfl⟩:∃ i:Nat,id=i:=⟨id.toNat,by omega⟩
  obtain ⟨j,rfl⟩:∃ j:Nat,i=j+1:=⟨i-1,by omega⟩
  have hj:j<L.length:=by omega
  have e1:wrapF .i64 (((j+1:Nat):Int)-1)=(j:Int):=by rw [wrapF_i64 (by omega) (by omega)]; omega
  have ho:X.at ((j+1:Nat):Int)=X.ones[j]?:=by
   unfold MM.at; rw [if_pos (by omega)]; congr 1; omega
  have hi:idxOf ((j+1:Nat):Int)=j:=by unfold idxOf; omega
  obtain ⟨q,hq⟩:∃ q:Int,q=((j+1:Nat):Int):=⟨_,rfl⟩
  rw [← hq] at hid e1 ho hi ⊢
  rcases hL with ⟨_,h0,_⟩ | ⟨_,d,hd,⟨_,h0,_⟩ | ⟨o,k,op,A,rfl,k1,k2,k3,_,k4⟩⟩
  ·omega
  ·omega
  have hA:A[o+j]? = some (.ptr L[j] 0):=by
   have:((A.drop o).take (L.length*1))[j]? = some (.ptr L[j] 0):=by rw [k4]; simp [hj]
   rw [List.getElem?_take_of_lt (by omega),List.getElem?_drop] at this
   exact this
  simp [hid,cellsAt,hm,e1,hj,blt_dec,k2,hA]
  exact .inr ⟨L[j],X.ones[j]'(by omega),rfl,by rw [ho,List.getElem?_eq_getElem],by rw [hi,List.getElem?_eq_getElem]⟩
 ·simp [hid]
  exact .inl ⟨rfl,by unfold MM.at; rw [if_neg (by omega)]⟩
end Go.Ev
end
section
namespace Go.Ev
open Proofs
set_option maxRecDepth 20000
def numF (l:List Int):Int:=bitsI .or .i64 (bitsI .or .i64 (bitsI .or .i64 (wrapF .i64 (l.getD 0 0)) (shlI .i64 (wrapF .i64 (l.getD 1 0)) 8)) (shlI .i64 (wrapF .i64 (l.getD 2 0)) 16)) (shlI .i64 (wrapF .i64 (l.getD 3 0)) 24)
theorem number_ok {b:Nat} {v:V} {l:List Int} {h:Heap} {n:Nat} (hs:BytesAt h b v l) (h4:l.length=4):CallK CC 107 [v] h n fun r h' n'=>r=.s (.int .i64 (numF l))∧h'=h:=by
 refine F107_call fun hlt=>?_
 rw [F107_eq]
 obtain ⟨p0,a0,b0⟩:=hs.ix (i:=0) (by omega)
 obtain ⟨p1,a1,b1⟩:=hs.ix (i:=1) (by omega)
 obtain ⟨p2,a2,b2⟩:=hs.ix (i:=2) (by omega)
 obtain ⟨p3,a3,b3⟩:=hs.ix (i:=3) (by omega)
 have c0:indexAddr CC 30 v (.s (.int .i64 0))=some (.ptr b p0):=a0
 have c1:indexAddr CC 30 v (.s (.int .i64 1))=some (.ptr b p1):=a1
 have c2:indexAddr CC 30 v (.s (.int .i64 2))=some (.ptr b p2):=a2
 have c3:indexAddr CC 30 v (.s (.int .i64 3))=some (.ptr b p3):=a3
 have s1:∀ x:Int,binop CC .shl 3 true (.s (.int .i64 x)) (.s (.int .u64 8))=some (.s (.int .i64 (shlI .i64 x 8))):=fun x=>bin_shl _ _ _ _ _ (by omega)
 have s2:∀ x:Int,binop CC .shl 3 true (.s (.int .i64 x)) (.s (.int .u64 16))=some (.s (.int .i64 (shlI .i64 x 16))):=fun x=>bin_shl _ _ _ _ _ (by omega)
 have s3:∀ x:Int,binop CC .shl 3 true (.s (.int .i64 x)) (.s (.int .u64 24))=some (.s (.int .i64 (shlI .i64 x 24))):=fun x=>bin_shl _ _ _ _ _ (by omega)
 have g0:l.getD 0 0=l[0]:=by simp [List.getD_eq_getElem?_getD,show 0<l.length by omega]
 have g1:l.getD 1 0=l[1]:=by simp [List.getD_eq_getElem?_getD,show 1<l.length by omega]
 have g2:l.getD 2 0=l[2]:=by simp [List.getD_eq_getElem?_getD,show 2<l.length by omega]
 have g3:l.getD 3 0=l[3]:=by simp [List.getD_eq_getElem?_getD,show 3<l.length by omega]
 unfold numF
 rw [g0,g1,g2,g3]
 simp [c0,c1,c2,c3,b0,b1,b2,b3,s1,s2,s3]
def findO (o:OneM) (k:List Int):Option Int:=if (k.length:Int)=o.d.key then (match o.by_ with
 | .progs _=>none
 | .arr ids=>arrF ids (numF k)
 | .hash R=>findH R k
 | .lru _ _ rows=>(idxL rows k).map fun i=>(rows.getD i ([],0)).2) else none
def useO (o:OneM) (k:List Int):OneM:=if (k.length:Int)=o.d.key then (match o.by_ with
 | .lru key most rows=>{ o with by_:=.lru key most (findL rows k) }
 | _=>o) else o
theorem useO_fine {o:OneM} (k:List Int) (F:o.Fine):(useO o k).Fine:=by
 unfold useO
 split
 ·cases hb:o.by_ with
  | lru key most rows=>
   have h:=F.by_
   rw [hb] at h
   refine ⟨F.may,h.1,h.2.1,h.2.2.1,fun r hr=>h.2.2.2 r ?_⟩
   unfold findL at hr
   split at hr
   ·rename_i i hi
    rcases List.mem_cons.1 hr with rfl | hr
    ·have:=idxL_lt hi
     rw [List.getD_eq_getElem?_getD,List.getElem?_eq_getElem this]; exact List.getElem_mem _
    ·exact outL_mem hr
   ·exact hr
  | _=>exact F
 ·exact F
theorem ptr_nil (p:Nat):binop CC .eql 121 true (.ptr p 0) (.s (.pointer none))=some (.s (.bool false)):=by kernel_rfl
theorem nil_nil:binop CC .eql 121 true (.s (.pointer none)) (.s (.pointer none))=some (.s (.bool true)):=by kernel_rfl
theorem find_ok {τ:Gh} {h:Heap} {n i p b:Nat} {o:OneM} {sl:V} {k:List Int} (use:Bool) (I:TInv τ h n) (H:OneR τ i p o) (F:o.Fine) (hbn:b<n) (hs:BytesAt h b sl k) (hkB:Byt k) (hk:k.length≤4611686018427387904) :
  CallK CC 50 [.ptr p 0,sl,.s (.bool use)] h n fun v h' n'=>v=pairV (findO o k)∧Goes (idxFp i) τ n h h' n' (fun τ'=>OneR τ' i p (if use then useO o k else o))∧(use=false→Same n [] h h'):=by
 refine F50_call fun hlt=>?_
 rw [F50_eq]
 obtain ⟨by_,hp,hby⟩:=H
 obtain ⟨hpn,pv,hg,hpv⟩:=I p _ hp
 have tri:∀ {h' n'},Same n [] h h'→n≤n'→(useO o k=o)→Goes (idxFp i) τ n h h' n' (fun τ'=>OneR τ' i p (if use then useO o k else o))∧(use=false→Same n [] h h'):=fun {h' n'} s hn e=>⟨⟨τ,I.same s hn,Keep.of_same s,by rw [e]; simp; exact ⟨by_,hp,hby⟩⟩,fun _=>s⟩
 by_cases hkey:(k.length:Int)=o.d.key
 ·simp only [ptr_nil,oK_some]
  have hf:=F.by_
  have hm:=F.may
  unfold findO
  rw [if_pos hkey]
  cases hbm:o.by_ with
  | progs l=>
   rw [hbm] at hby
   have hu:useO o k=o:=by unfold useO; rw [if_pos hkey,hbm]
   cases by_ <;> first | exact hby.elim | skip
   simp [byV,cellsAt,hg,hs.len,hkey,ta_na,ta_nl,ta_nk,pairV]
   simpa using tri (Same.refl _ _ _) (Nat.le_refl _) hu
  | arr ids=>
   rw [hbm] at hby hf
   have hu:useO o k=o:=by unfold useO; rw [if_pos hkey,hbm]
   cases by_ with
   | arr a=>
    have h4:o.d.key=4:=hm.2.2.2.2.2.2.1 (.inl hf.1)
    simp [byV,cellsAt,hg,hs.len,hkey,ta_aa]
    refine CallK.monoN ?_ (number_ok hs (by omega))
    rintro _ h1 n1 ⟨rfl,e1⟩ hn1
    obtain rfl:h=h1:=e1.symm
    refine CallK.monoN ?_ (arrayCell_ok (n:=n1) (I.weaken hn1) hby _)
    rintro _ h1 n2 ⟨rfl,e1⟩ hn2
    obtain rfl:h=h1:=e1.symm
    simp [pairV]
    simpa using tri (Same.refl _ _ _) (show n≤n2 by omega) hu
   | _=>exact hby.elim
  | hash R=>
   rw [hbm] at hby
   have hu:useO o k=o:=by unfold useO; rw [if_pos hkey,hbm]
   cases by_ with
   | hash a=>
    simp [byV,cellsAt,hg,hs.len,hkey,ta_ha,ta_hl,ta_hk,inv_hf]
    refine CallK.monoN ?_ (hashFind_ok I hby hbn hs hkB hk)
    rintro _ h1 n1 ⟨rfl,hs1⟩ hn1
    simp [pairV]
    simpa using tri hs1 hn1 hu
   | _=>exact hby.elim
  | lru key most rows=>
   rw [hbm] at hby
   cases by_ with
   | lru a=>
    simp [byV,cellsAt,hg,hs.len,hkey,ta_la,ta_ll]
    cases use with
    | false=>
     simp
     refine CallK.monoN ?_ (lruPeek_ok I hby hbn hs hkB)
     rintro _ h1 n1 ⟨rfl,hs1⟩ hn1
     simp [pairV]
     exact ⟨⟨τ,I.same hs1 hn1,Keep.of_same hs1,.lru a,hp,by rw [hbm]; exact hby⟩,hs1⟩
    | true=>
     simp [ta_lk,inv_lf]
     refine CallK.monoN ?_ (lruFind_ok I hby hbn hs hkB)
     rintro _ h1 n1 ⟨rfl,τ1,I1,K1,ht1⟩ hn1
     simp [pairV]
     have K1':Keep (idxFp i) τ τ1 n h h1:=K1.mono fun b k e hb=>by rw [show b=a from hb,hby] at e; cases e; rfl
     have hpa:p≠a:=by rintro rfl; have h2:τ p=_:=hby; rw [hp] at h2; cases h2
     refine ⟨τ1,I1,K1',.lru a,?_,?_⟩
     ·have e:(useO o k).d=o.d:=by unfold useO; rw [if_pos hkey,hbm]
      rw [e]; exact K1.ty p _ hpn hp (.inl hpa)
     ·have e:(useO o k).by_=.lru key most (findL rows k):=by unfold useO; rw [if_pos hkey,hbm]
      rw [e]; exact ht1
   | _=>exact hby.elim
 ·have hu:useO o k=o:=by unfold useO; rw [if_neg hkey]
  have hf:findO o k=none:=by unfold findO; rw [if_neg hkey]
  rw [hf]
  simp [hs.len,cellsAt,hg,hkey,pairV]
  simpa using tri (Same.refl _ _ _) (Nat.le_refl _) hu
theorem findN_ok {h:Heap} {n:Nat} (sl use:V):CallK CC 50 [.s (.pointer none),sl,use] h n fun v h' n'=>v=pairV none∧h'=h:=by
 refine F50_call fun hlt=>?_
 rw [F50_eq]
 simp [pairV]
end Go.Ev
end
section
namespace Go.Ev
open Proofs
set_option maxRecDepth 20000
theorem growG_ok {sz bytes n len:Nat} {P:Nat→Prop} {h:Heap} {cs new:List V} {v x:V} (hz:sz≠0) (hG:(v=.s (.slice none 0 0)∧len=0∧cs=[])∨(v≠.s (.slice none 0 0)∧∃ d,d<n∧P d∧GrowAt h d v sz len cs)) (hx:Row h sz 1 new x) (hbd:(2*(len+1)+192)*bytes≤281474976710656) {K:V→Heap→Nat→Prop}
  (hK:∀ v' d' h' n',(n≤d'∨P d')→d' < n'→n≤n'→v'≠.s (.slice none 0 0)→GrowAt h' d' v' sz (len+1) (cs++new)→(∀ x,x<n→¬ P x→h'.get x=h.get x)→K v' h' n'):appendWK sz bytes h n v x K:=by
 rcases hG with ⟨rfl,rfl,rfl⟩ | ⟨h1,d,hd,hP,h3⟩
 ·refine append_nil hz hx (by omega) (by omega) fun h' g1 g2=>?_
  have hl:=hx.length
  refine hK _ n h' (n+1) (.inl (Nat.le_refl _)) (by omega) (by omega) (by simp) (.inr ⟨0,1,true,new,by simp,by omega,g1,by omega,fun _=>by omega,?_⟩) fun x hx _=>g2 x (by omega)
  simp only [List.drop_zero,List.nil_append,Nat.zero_add]
  rw [← hl]
  exact List.take_of_length_le (Nat.le_refl _)
 ·refine grow_ok hz h3 hx hd hbd ?_
  intro v' a' h' n' ha' han hn hG' hs'
  refine hK v' a' h' n' (by rcases ha' with rfl | rfl; exact .inr hP; exact .inl (Nat.le_refl _)) han hn ?_ hG' fun x hx hn'=>hs' x (by rintro rfl; exact hn' hP) (by omega)
  rintro rfl
  rcases hG' with ⟨_,h0,_⟩ | ⟨o,c,op,A,h0,_⟩
  ·omega
  ·cases h0
theorem EvsV.append {τ:Gh} {h:Heap} {b:Nat}:∀ {l l2:List EvR} {cs cs2:List V},EvsV τ h b l cs→EvsV τ h b l2 cs2→EvsV τ h b (l++l2) (cs++cs2)
 | [],_,_,_,H,G=>by rw [show _=[] from H]; exact G
 | e::l,_,_,_,⟨kv,cs',h1,h2,h3⟩,G=>⟨kv,cs'++_,by rw [h1]; rfl,h2,EvsV.append h3 G⟩
theorem fill_ev (a b c d e:V):fillA 5 ((zr CC 115).rep 1) [(0,.agg (.lst [a,b,c,d,e]))]=some (.lst [a,b,c,d,e]):=by kernel_rfl
theorem note_ok {τ:Gh} {h0 h:Heap} {n0 n m c:Nat} {L:List Nat} {now:Int} {ev:List EvR} (I0:TInv τ h0 n0) (hm0:τ m=some (.maps c L now ev)) (s0:Same n0 [] h0 h) (hn0:n0≤n) (hne:ev.length≤1000000000) (x1 x2 x3 x4:Int) {kv:V} {key:List Int}
  (hkv:(kv=.s (.slice none 0 0)∧key=[])∨∃ kb,n0≤kb∧kb<n∧BytesAt h kb kv key) :
  CallK CC 63 [.ptr m 0,.agg (.lst [.s (.int .i64 x1),.s (.int .i64 x2),.s (.int .i64 x3),.s (.int .i64 x4),kv])] h n fun v h' n'=>Goes (onlyFp m) τ n0 h0 h' n' fun τ'=>τ' m=some (.maps c L now (ev++[⟨x1,x2,x3,x4,key⟩])):=by
 refine F63_call fun hlt=>?_
 rw [F63_eq]
 have I:TInv τ h n:=I0.same s0 hn0
 have hmn0:=(I0 m _ hm0).1
 obtain ⟨hmn,lv,evv,es,hm,hL,hE,hEs⟩:=I m _ hm0
 have hf:=fill_ev (.s (.int .i64 x1)) (.s (.int .i64 x2)) (.s (.int .i64 x3)) (.s (.int .i64 x4)) kv
 have hkc:V.cells kv=some (.one kv):=by
  rcases hkv with ⟨rfl,_⟩ | ⟨kb,_,_,⟨rfl,_⟩ | ⟨_,_,_,_,_,rfl,_⟩⟩ <;> rfl
 simp [cellsAt,Tree.get_set,show ¬ m=n by omega,hm,ble_dec,(growM_norm hE).1,hf]
 generalize hh:Tree.set (Tree.set h n _) (n+1+6) _=h1
 have g1:h1.get (n+1+6)=some (.cells (.lst [.s (.int .i64 x1),.s (.int .i64 x2),.s (.int .i64 x3),.s (.int .i64 x4),kv]) 5):=by rw [← hh,Tree.get_set,if_pos rfl]
 have hs1:Same n [] h h1:=fun x hx _=>by rw [← hh,Tree.get_set,if_neg (by omega),Tree.get_set,if_neg (by omega)]
 have hrow:Row h1 5 1 [.s (.int .i64 x1),.s (.int .i64 x2),.s (.int .i64 x3),.s (.int .i64 x4),kv] (.slice (n+1+6) 0 1 1 false):=.row (A:=[.s (.int .i64 x1),.s (.int .i64 x2),.s (.int .i64 x3),.s (.int .i64 x4),kv]) (es:=5) (by simp only [cellsAt,g1]) rfl rfl
 have hGr:(evv=.s (.slice none 0 0)∧ev.length=0∧es=[])∨(evv≠.s (.slice none 0 0)∧∃ d,d<n+1+11∧τ d=some (.part m 1)∧GrowAt h1 d evv 5 ev.length es):=by
  rcases hE with H | ⟨q1,d,q2,q3⟩
  ·exact .inl H
  ·have hd:=(I d _ q2).1
   exact .inr ⟨q1,d,by omega,q2,q3.of (hs1 d hd (by simp))⟩
 refine growG_ok (P:=fun d=>τ d=some (.part m 1)) (by omega) hGr hrow ?_ ?_
 ·omega
 intro v' d' h2 n2 hd' hdn hn2 hv' hG hs2
 have hcell:V.cells v'=some (.one v'):=by
  rcases hG with ⟨rfl,_⟩ | ⟨o,k,op,A,rfl,_⟩ <;> rfl
 have em:∀ x,x<n→τ x≠some (.part m 1)→h2.get x=h.get x:=fun x hx hxe=>by rw [hs2 x (by omega) hxe,hs1 x hx (by simp)]
 have gm:h2.get m=some (.cells (.lst [.ptr c 0,lv,.s (.int .i64 now),evv]) 4):=by rw [em m hmn (by rw [hm0]; simp),hm]
 simp [hcell,gm,storeCells,cellsOwn,Rope.put,ble_dec]
 generalize hh3:Tree.set h2 m _=h3
 have gm3:h3.get m=some (.cells (.lst [.ptr c 0,lv,.s (.int .i64 now),v']) 4):=by rw [← hh3,Tree.get_set,if_pos rfl]
 have e3:∀ x,x≠m→h3.get x=h2.get x:=fun x hx=>by rw [← hh3,Tree.get_set,if_neg hx]
 have hfin:∀ x,x<n→x≠m→τ x≠some (.part m 1)→h3.get x=h.get x:=fun x hx hxm hxp=>by rw [e3 x hxm,em x hx hxp]
 obtain ⟨τ1,t1,t2,t3⟩:∃ τ1:Gh,(∀ x,x<n0→τ1 x=τ x)∧(∀ x k,n0≤x→τ1 x=some k→k=.part m 2∧x<n)∧(kv=.s (.slice none 0 0)∧key=[]∨∃ d,τ1 d=some (.part m 2)∧n0≤d∧d<n∧BytesAt h d kv key):=by
  rcases hkv with hk | ⟨kb,k1,k2,k3⟩
  ·exact ⟨τ,fun _ _=>rfl,fun x k hx e=>(by rw [I0.none hx] at e; cases e),.inl hk⟩
  ·refine ⟨upT τ kb (.part m 2),fun x hx=>upT_other (by omega),fun x k hx e=>?_,.inr ⟨kb,upT_same _ _ _,k1,k2,k3⟩⟩
   by_cases hxk:x=kb
   ·subst hxk; rw [upT_same] at e; cases e; exact ⟨rfl,k2⟩
   ·rw [upT_other hxk,I0.none hx] at e; cases e
 have hdm:d'≠m:=by
  rcases hd' with h | h
  ·omega
  ·rintro rfl; rw [hm0] at h; cases h
 have hdcase:n+1+11≤d'∨(d' < n0∧τ d'=some (.part m 1)):=by
  rcases hd' with h | h
  ·exact .inl h
  ·exact .inr ⟨(I0 d' _ h).1,h⟩
 have tt:∀ x,x≠m→x≠d'→upT (upT τ1 d' (.part m 1)) m (.maps c L now (ev++[⟨x1,x2,x3,x4,key⟩])) x=τ1 x:=fun x h1 h2=>by rw [upT_other h1,upT_other h2]
 have tlt:∀ x,x<n0→x≠m→upT (upT τ1 d' (.part m 1)) m (.maps c L now (ev++[⟨x1,x2,x3,x4,key⟩])) x=τ x:=fun x hx hxm=>by
  rw [upT_other hxm]
  by_cases hxd:x=d'
  ·subst hxd
   rcases hdcase with h | ⟨_,h⟩
   ·omega
   ·rw [upT_same,h]
  ·rw [upT_other hxd,t1 x hx]
 have hsx:∀ x,x<n0→x≠m→(∀ i,τ x≠some (.part m i))→h3.get x=h0.get x:=fun x hx hxm hxp=>by rw [hfin x (by omega) hxm (hxp 1),s0 x hx (by simp)]
 refine ⟨_,I0.go m (by omega) (fun x i e=>by rw [hm0] at e; cases e) tlt hsx fun x k e hx=>?_,⟨fun x k hx e hf=>?_,fun x hx e=>?_,fun y k x hy hx e hk hf hp=>?_⟩,upT_same _ _ _⟩
 ·by_cases hxm:x=m
  ·subst hxm; rw [upT_same] at e; cases e
   refine ⟨by omega,lv,v',es++[.s (.int .i64 x1),.s (.int .i64 x2),.s (.int .i64 x3),.s (.int .i64 x4),kv],gm3,?_,?_,?_⟩
   ·refine hL.of fun y hy=>?_
    have hyn:=(I y _ hy).1
    have hyn0:=(I0 y _ hy).1
    have hym:y≠x:=by rintro rfl; rw [hm0] at hy; cases hy
    exact ⟨hfin y hyn hym (by rw [hy]; simp),by rw [tlt y hyn0 hym]; exact hy⟩
   ·refine .inr ⟨hv',d',by rw [upT_other hdm,upT_same],?_⟩
    rw [List.length_append]
    exact hG.of (e3 d' hdm)
   ·refine EvsV.append (hEs.of fun y hy=>?_) ⟨kv,[],rfl,?_,rfl⟩
    ·have hyn:=(I y _ hy).1
     have hyn0:=(I0 y _ hy).1
     have hym:y≠x:=by rintro rfl; rw [hm0] at hy; cases hy
     exact ⟨hfin y hyn hym (by rw [hy]; simp),by rw [tlt y hyn0 hym]; exact hy⟩
    ·rcases t3 with hk | ⟨d,k1,k2,k3,k4⟩
     ·exact .inl hk
     ·have hdx:d≠x:=by omega
      have hdd:d≠d':=by omega
      refine .inr ⟨d,by rw [tt d hdx hdd]; exact k1,k4.of (hfin d k3 hdx ?_)⟩
      rw [I0.none k2]; simp
  ·rw [upT_other hxm] at e
   by_cases hxd:x=d'
   ·subst hxd; rw [upT_same] at e; cases e; exact ⟨hdn,trivial⟩
   ·rw [upT_other hxd] at e
    obtain ⟨rfl,hxn⟩:=t2 x k (by omega) e
    exact ⟨by omega,trivial⟩
 ·by_cases hxm:x=m
  ·subst hxm
   rw [hm0] at e; cases e
   rcases hf with hf | ⟨_,_,hf⟩
   ·exact absurd rfl hf
   ·cases hf
  ·rw [tlt x hx hxm]; exact e
 ·have hxm:x≠m:=by rintro rfl; rw [hm0] at e; cases e
  exact ⟨by rw [tlt x hx hxm]; exact e,hsx x hx hxm fun i=>by rw [e]; simp⟩
 ·refine hsx x hx ?_ ?_
  ·rcases hp with rfl | ⟨i,hp⟩
   ·exact hf
   ·rintro rfl; rw [hm0] at hp; cases hp
  ·intro i hp'
   rcases hp with rfl | ⟨j,hp⟩
   ·exact hk m i (by rw [e] at hp'; exact Option.some.inj hp')
   ·rw [hp] at hp'; cases hp'; exact hf rfl
theorem MapsX.noted {τ τ':Gh} {h h':Heap} {n m c:Nat} {L:List Nat} {X:MM} {ev:List EvR} (H:MapsX τ m c L X) (I:TInv τ h n) (K:Keep (onlyFp m) τ τ' n h h') (e:τ' m=some (.maps c L X.now ev)):MapsX τ' m c L { X with ev:=ev }:=by
 have nm:∀ b k,τ b=some k→(cellFp b k∨∃ i,idxFp i b k)→¬ onlyFp m b k:=fun b k hb hk hm=>by
  rw [show b=m from hm,H.m0] at hb
  cases hb
  rcases hk with hk | ⟨_,hk⟩ <;> exact hk
 exact ⟨e,H.cs.keep I K fun b k hb hc=>nm b k hb (.inl hc),H.len,fun i p o h1 h2=>(H.one i p o h1 h2).keep I K fun b k hb hc=>nm b k hb (.inr ⟨i,hc⟩),H.fine,H.l8,H.la0⟩
theorem bclone0_ok {b:Nat} {sl:V} {l:List Int} {h:Heap} {n:Nat} (hb:b<n) (hs:BytesAt h b sl l) (hl:l.length≤140737488355000) :
  CallK CC 114 [sl] h n fun v h' n'=>((v=.s (.slice none 0 0)∧l=[])∨∃ a,n≤a∧a<n'∧BytesAt h' a v l)∧V.cells v=some (.one v)∧vcl v=some [v]∧normV v=v∧Same n [] h h':=by
 refine F114_call fun hlt=>?_
 rw [F114_eq]
 rcases hs with ⟨rfl,h2,h3⟩ | ⟨o,c,op,A,es,rfl,h2,h3,h4⟩
 ·have:l=[]:=List.length_eq_zero_iff.1 h2
  subst this
  simp
  exact Same.refl _ _ _
 ·have hs:BytesAt (h.set n (.cells (.lst []) 1)) b (.slice b o l.length c op) l:=SliceAt.of (.inr ⟨o,c,op,A,es,rfl,h2,h3,h4⟩) (by rw [Tree.get_set,if_neg (by omega)])
  simp
  by_cases hm:l.length=0
  ·have:l=[]:=List.length_eq_zero_iff.1 hm
   subst this
   refine append_none (cs:=[]) (by simpa [bytesV'] using hs.row) (by rw [Tree.get_set,if_pos rfl]) (Nat.le_refl _) fun h' he=>?_
   exact ⟨.inr ⟨n,by omega,by omega,.inr ⟨0,0,false,[],1,rfl,by simp [cellsAt,he,Tree.get_set],rfl,rfl⟩⟩,rfl,rfl,rfl,fun b' hb' _=>by rw [he,Tree.get_set,if_neg (by omega)]⟩
  ·refine append_new (cs:=bytesV' l) (old:=[]) (by omega) hs.row (.row (A:=[]) (es:=1) (by simp [cellsAt,Tree.get_set]) rfl rfl) (by omega) (by omega) fun h' h5 h6=>?_
   refine ⟨.inr ⟨n+1,by omega,by omega,.inr ⟨0,0+l.length,true,bytesV' l,1,by simp,by rw [cellsAt,h5,List.nil_append],by rw [Nat.mul_one,List.drop_zero,bytes_take],by simp⟩⟩,rfl,rfl,rfl,fun b' hb' _=>by rw [h6 b' (by omega),Tree.get_set,if_neg (by omega)]⟩
theorem bound_ok {τ:Gh} {h:Heap} {n m c b:Nat} {L:List Nat} {X:MM} {sl:V} {k:List Int} (I:TInv τ h n) (H:MapsX τ m c L X) (hne:X.ev.length≤1000000000) (id:Int) (hb:b<n) (hs:BytesAt h b sl k) (hk:k.length≤140737488355000) :
  CallK CC 61 [.ptr m 0,.s (.int .i64 id),sl] h n fun v h' n'=>Goes (onlyFp m) τ n h h' n' fun τ'=>MapsX τ' m c L { X with ev:=X.ev++[⟨1,id,0,0,k⟩] }:=by
 refine F61_call fun hlt=>?_
 rw [F61_eq]
 refine CallK.monoN ?_ (bclone0_ok hb hs hk)
 rintro v h1 n1 ⟨hv,e1,e2,e3,hs1⟩ hn1
 simp [e2]
 refine CallK.monoN ?_ (note_ok I H.m0 hs1 hn1 hne 1 id 0 0 (by
  rcases hv with ⟨h1,h2⟩ | ⟨a,h1,h2,h3⟩
  ·exact .inl ⟨h1,h2⟩
  ·exact .inr ⟨a,h1,h2,h3⟩))
 rintro _ h2 n2 ⟨τ',I',K',e⟩ hn2
 exact ⟨τ',I',K',H.noted I K' e⟩
end Go.Ev
end
section
namespace Go.Ev
open Proofs
set_option maxRecDepth 20000
def MM.setO (X:MM) (id:Int) (o:OneM):MM:={ X with ones:=X.ones.set (idxOf id) o }
def MM.note (X:MM) (e:EvR):MM:={ X with ev:=X.ev++[e] }
def MM.make (X:MM) (v:List Int):MM:={ X with C:=updG X.C (X.last+1) (some (v,false)),last:=X.last+1 }
def MM.drop (X:MM) (x:Int):MM:={ X with C:=dropF X.C x }
def layF (X:MM) (id:Int) (k v:List Int):MM:=match X.at id with
 | none=>X
 | some o=>match o.by_ with
  | .hash R=>((X.make v).setO id { o with by_:=.hash (putF R k (X.last+1)) }).note ⟨1,id,0,0,k⟩
  | .lru key most rows=>
   if k.length=key∧idxL rows k=none then
    (if 0<(goneL most rows).2 then (((X.make v).setO id { o with by_:=.lru key most (putL most rows k (X.last+1)) }).drop (goneL most rows).2).note ⟨1,id,0,0,(goneL most rows).1⟩
     else (X.make v).setO id { o with by_:=.lru key most (putL most rows k (X.last+1)) }).note ⟨1,id,0,0,k⟩
   else (X.make v).note ⟨1,id,0,0,k⟩
  | _=>X.note ⟨1,id,0,0,k⟩
theorem putF_fine {R:HashR} {k:List Int} {cell:Int} (F:R.Fine) (hB:Byt k):(putF R k cell).Fine∧(putF R k cell).key=R.key∧(putF R k cell).mx=R.mx:=by
 unfold putF
 split
 ·rename_i h
  refine ⟨putG_fine F h.1 hB,?_⟩
  unfold putG
  split <;> exact ⟨rfl,rfl⟩
 ·exact ⟨F,rfl,rfl⟩
theorem putL_mem {most:Nat} {rows:List (List Int×Int)} {k:List Int} {cell:Int} {r:List Int×Int} (h:r∈putL most rows k cell):r=(k,cell)∨r∈rows:=by
 unfold putL at h
 rcases List.mem_cons.1 h with h | h
 ·exact .inl h
 ·right
  split at h
  ·exact outL_mem h
  ·exact h
theorem OneR.put {τ τ':Gh} {h h':Heap} {n i p a:Nat} {d:DeclR} {b:ByP} {m:ByM} (I:TInv τ h n) (hp:τ p=some (.one i d b)) (hpa:p≠a) (K:Keep (onlyFp a) τ τ' n h h') (hb:ByR τ' i b m):OneR τ' i p ⟨d,m⟩:=
 ⟨b,K.ty p _ (I p _ hp).1 hp (.inl hpa),hb⟩
theorem mlay_ok {τ:Gh} {h:Heap} {n m c kb vb:Nat} {L:List Nat} {X:MM} {ks vs:V} {k v:List Int} {o:OneM} (I:TInv τ h n) (H:MapsX τ m c L X) (hne:X.ev.length+1≤1000000000) (hla:X.last≤4611686018427380000) {id:Int} (hid:X.at id=some o)
  (kbn:kb<n) (kbt:τ kb=none) (hks:BytesAt h kb ks k) (hkB:Byt k) (hk:k.length≤140737488355000) (vbn:vb<n) (vbt:τ vb=none) (hvs:BytesAt h vb vs v) (hvc:CapOk vs) (hvB:Byt v) (hv1:1≤v.length) (hv:v.length≤64) :
  CallK CC 105 [.ptr m 0,.s (.int .i64 id),ks,vs] h n fun _ h' n'=>Goes anyFp τ n h h' n' fun τ'=>MapsX τ' m c L (layF X id k v):=by
 refine F105_call fun hlt=>?_
 rw [F105_eq]
 refine CallK.monoN ?_ (at_ok I H id)
 rintro _ h1 n1 ⟨⟨rfl,hn⟩ | ⟨p,o',rfl,ho,hLp⟩,e1⟩ hn1
 ·rw [hid] at hn; cases hn
 obtain rfl:h=h1:=e1.symm
 rw [hid] at ho; cases ho
 have I1:=I.weaken hn1
 have hix:=(MM.at_some hid).2
 obtain ⟨by_,hp,hby⟩:=H.one _ _ _ hLp hix
 obtain ⟨hpn,pv,hg,hpv⟩:=I p _ hp
 obtain ⟨lv,evv,es,hm,_⟩:=(I m _ H.m0).2
 have hF:=H.fine o (List.mem_of_getElem? hix)
 have hf:=hF.by_
 have e64:v.take 64=v:=List.take_of_length_le hv
 have makes:CallK CC 154 [.ptr c 0,vs] h n1 fun r h' n'=>Goes cellFp τ n1 h h' n' fun τ'=>r=.s (.int .i64 (X.last+1))∧CellsR τ' c (updG X.C (X.last+1) (some (v,false))) (X.last+1):=by
  have:=make_ok I1 H.cs H.la0 (by omega) (by omega) vbt hvs hvc hvB hv1 (by omega)
  rw [e64] at this
  exact this
 have K1:Keep anyFp τ τ n h h:=Keep.refl _ _ _ _
 cases hbm:o.by_ with
 | progs l=>
  rw [hbm] at hby
  have eL:layF X id k v=X.note ⟨1,id,0,0,k⟩:=by simp only [layF,hid,hbm]
  rw [eL]
  cases by_ with
  | progs _=>
   simp [byV,cellsAt,hg,ta_nh,ta_nl]
   refine CallK.monoN ?_ (bound_ok I1 H (by omega) id (by omega) hks hk)
   rintro _ h2 n2 ⟨t,I',K',q⟩ hn2
   exact ⟨t,I',K1.trans hn1 K'.any,q⟩
  | _=>exact hby.elim
 | arr ids=>
  rw [hbm] at hby
  have eL:layF X id k v=X.note ⟨1,id,0,0,k⟩:=by simp only [layF,hid,hbm]
  rw [eL]
  cases by_ with
  | arr a=>
   simp [byV,cellsAt,hg,ta_ah,ta_al]
   refine CallK.monoN ?_ (bound_ok I1 H (by omega) id (by omega) hks hk)
   rintro _ h2 n2 ⟨t,I',K',q⟩ hn2
   exact ⟨t,I',K1.trans hn1 K'.any,q⟩
  | _=>exact hby.elim
 | hash R=>
  rw [hbm] at hby hf
  have eL:layF X id k v=((X.make v).setO id { o with by_:=.hash (putF R k (X.last+1)) }).note ⟨1,id,0,0,k⟩:=by simp only [layF,hid,hbm]
  rw [eL]
  cases by_ with
  | hash a=>
   simp [byV,cellsAt,hg,ta_hh,hm]
   refine CallK.monoN ?_ makes
   rintro _ h2 n2 ⟨τ2,I2,K2,rfl,R2⟩ hn2
   have H2:=H.cells I1 K2 R2 (by have:=H.la0; omega)
   have kk:=K2.non kb (by omega) kbt
   have hby':τ a=some (.hash (idxOf id) R):=hby
   have ha2:=K2.ty a _ (I1 a _ hby').1 hby' (.inl fun h=>h)
   refine CallK.monoN ?_ (hashPut_ok (X.last+1) I2 ha2 hkB (by omega) kk.1 (hks.of kk.2) (by omega))
   rintro _ h3 n3 ⟨τ3,I3,K3,e3⟩ hn3
   have hp2:=K2.ty p _ (by omega) hp (.inl fun h=>h)
   have hpa:p≠a:=by rintro rfl; rw [hp] at hby'; cases hby'
   have pf:=putF_fine (cell:=X.last+1) hf.2.2.2 hkB
   have H3:=H2.at_ I2 (K3.mono fun b k e hb=>by rw [show b=a from hb,ha2] at e; cases e; rfl) hLp (o:={ o with by_:=.hash (putF R k (X.last+1)) }) (OneR.put I2 hp2 hpa K3 (by show τ3 a=_; rw [e3,upT_same])) ⟨hF.may,hf.1,by rw [pf.2.1]; exact hf.2.1,by rw [pf.2.2]; exact hf.2.2.1,pf.1⟩
   have kk3:=K3.non kb (by omega) kk.1
   refine CallK.monoN ?_ (bound_ok I3 H3 (by show X.ev.length≤_; omega) id (by omega) ((hks.of kk.2).of kk3.2) hk)
   rintro _ h4 n4 ⟨t,I',K',q⟩ hn4
   exact ⟨t,I',K1.trans hn1 (K2.any.trans hn2 (K3.any.trans hn3 K'.any)),q⟩
  | _=>exact hby.elim
 | lru key most rows=>
  rw [hbm] at hby hf
  cases by_ with
  | lru a=>
   simp [byV,cellsAt,hg,ta_lh,ta_ll,hm]
   refine CallK.monoN ?_ makes
   rintro _ h2 n2 ⟨τ2,I2,K2,rfl,R2⟩ hn2
   have H2:=H.cells I1 K2 R2 (by have:=H.la0; omega)
   have kk:=K2.non kb (by omega) kbt
   have hby':τ a=some (.lru (idxOf id) key most rows):=hby
   have ha2:=K2.ty a _ (I1 a _ hby').1 hby' (.inl fun h=>h)
   refine CallK.monoN ?_ (lruPut_ok (X.last+1) I2 ha2 (by omega) kk.1 (hks.of kk.2) hkB)
   rintro _ h3 n3 ⟨τ3,I3,K3,hP⟩ hn3
   have hp2:=K2.ty p _ (by omega) hp (.inl fun h=>h)
   have hpa:p≠a:=by rintro rfl; rw [hp] at hby'; cases hby'
   have K3':Keep (idxFp (idxOf id)) τ2 τ3 n2 h2 h3:=K3.mono fun b k e hb=>by rw [show b=a from hb,ha2] at e; cases e; rfl
   have kk3:=K3.non kb (by omega) kk.1
   rcases hP with ⟨hno,e3,g,e,rfl⟩ | ⟨hyes,e3,g,ga,rfl,a1,a2,a3,a4⟩
   ·have H3:=H2.at_ I2 K3' hLp (o:={ o with by_:=.lru key most rows }) (OneR.put I2 hp2 hpa K3 e3) ⟨hF.may,hf⟩
    have eo:({ o with by_:=.lru key most rows }:OneM)=o:=by rw [← hbm]
    have eL:layF X id k v=(X.make v).note ⟨1,id,0,0,k⟩:=by simp only [layF,hid,hbm]; rw [if_neg hno]
    have eS:({ X.make v with ones:=(X.make v).ones.set (idxOf id) o }:MM)=X.make v:=MapsX.set_id (τ:=τ) (m:=m) (c:=c) (L:=L) (X:=X.make v) hix
    rw [eL]
    rw [eo] at H3
    have H3':MapsX τ3 m c L (X.make v):=by rw [← eS]; exact H3
    clear H3
    simp
    refine CallK.monoN ?_ (bound_ok I3 H3' (by show X.ev.length≤_; omega) id (by omega) ((hks.of kk.2).of kk3.2) hk)
    rintro _ h4 n4 ⟨t,I',K',q⟩ hn4
    exact ⟨t,I',K1.trans hn1 (K2.any.trans hn2 (K3.any.trans hn3 K'.any)),q⟩
   ·have k16:k.length≤16:=by have:=hF.may.2.1; have:=hf.2.1; omega
    have H3:=H2.at_ I2 K3' hLp (o:={ o with by_:=.lru key most (putL most rows k (X.last+1)) }) (OneR.put I2 hp2 hpa K3 e3) ⟨hF.may,hf.1,hf.2.1,hf.2.2.1,fun r hr=>by
     rcases putL_mem hr with rfl | hr
     ·exact ⟨hkB,k16⟩
     ·exact hf.2.2.2 r hr⟩
    obtain ⟨lv3,evv3,es3,hm3,_⟩:=(I3 m _ H3.m0).2
    by_cases hx:0<(goneL most rows).2
    ·have hg16:(goneL most rows).1.length≤16:=by
      unfold goneL at hx ⊢
      split
      ·rename_i hl
       by_cases hm1:most-1<rows.length
       ·rw [List.getD_eq_getElem?_getD,List.getElem?_eq_getElem hm1]; exact (hf.2.2.2 _ (List.getElem_mem _)).2
       ·rw [List.getD_eq_getElem?_getD,List.getElem?_eq_none (by omega)]; simp
      ·simp
     have eL:layF X id k v=((((X.make v).setO id { o with by_:=.lru key most (putL most rows k (X.last+1)) }).drop (goneL most rows).2).note ⟨1,id,0,0,(goneL most rows).1⟩).note ⟨1,id,0,0,k⟩:=by simp only [layF,hid,hbm]; rw [if_pos hyes,if_pos hx]
     rw [eL]
     simp [hx,hm3]
     refine CallK.monoN ?_ (drop_ok I3 H3.cs _)
     rintro _ h4 n4 ⟨τ4,I4,K4,R4⟩ hn4
     have H4:=H3.cells I3 K4 R4 H3.la0
     have gg:=K4.non ga a2 a3
     have kk4:=K4.non kb (by omega) kk3.1
     refine CallK.monoN ?_ (bound_ok I4 H4 (by show X.ev.length≤_; omega) id (by omega) (a4.of gg.2) (by omega))
     rintro _ h5 n5 ⟨τ5,I5,K5,H5⟩ hn5
     have kk5:=K5.non kb (by omega) kk4.1
     refine CallK.monoN ?_ (bound_ok I5 H5 (by show (X.ev++_).length≤_; simp; omega) id (by omega) ((((hks.of kk.2).of kk3.2).of kk4.2).of kk5.2) hk)
     rintro _ h6 n6 ⟨t,I',K',q⟩ hn6
     exact ⟨t,I',K1.trans hn1 (K2.any.trans hn2 (K3.any.trans hn3 (K4.any.trans hn4 (K5.any.trans hn5 K'.any)))),q⟩
    ·have eL:layF X id k v=((X.make v).setO id { o with by_:=.lru key most (putL most rows k (X.last+1)) }).note ⟨1,id,0,0,k⟩:=by simp only [layF,hid,hbm]; rw [if_pos hyes,if_neg hx]
     rw [eL]
     simp [hx]
     refine CallK.monoN ?_ (bound_ok I3 H3 (by show X.ev.length≤_; omega) id (by omega) ((hks.of kk.2).of kk3.2) hk)
     rintro _ h4 n4 ⟨t,I',K',q⟩ hn4
     exact ⟨t,I',K1.trans hn1 (K2.any.trans hn2 (K3.any.trans hn3 K'.any)),q⟩
  | _=>exact hby.elim
end Go.Ev
end
section
namespace Go.Ev
open Proofs
set_option maxRecDepth 20000
theorem by_nn:binop CC .eql 20 true (.s .nilIface) (.s .nilIface)=some (.s (.bool true)):=by kernel_rfl
theorem by_an (a:Nat):binop CC .eql 20 true (.iface 180 (.ptr a 0)) (.s .nilIface)=some (.s (.bool false)):=by kernel_rfl
theorem by_hn (a:Nat):binop CC .eql 20 true (.iface 182 (.ptr a 0)) (.s .nilIface)=some (.s (.bool false)):=by kernel_rfl
theorem by_ln (a:Nat):binop CC .eql 20 true (.iface 184 (.ptr a 0)) (.s .nilIface)=some (.s (.bool false)):=by kernel_rfl
theorem by_nn':binop CC .neq 20 true (.s .nilIface) (.s .nilIface)=some (.s (.bool false)):=by kernel_rfl
theorem by_an' (a:Nat):binop CC .neq 20 true (.iface 180 (.ptr a 0)) (.s .nilIface)=some (.s (.bool true)):=by kernel_rfl
theorem by_hn' (a:Nat):binop CC .neq 20 true (.iface 182 (.ptr a 0)) (.s .nilIface)=some (.s (.bool true)):=by kernel_rfl
theorem by_ln' (a:Nat):binop CC .neq 20 true (.iface 184 (.ptr a 0)) (.s .nilIface)=some (.s (.bool true)):=by kernel_rfl
theorem useO_none {o:OneM} {k:List Int} (h:findO o k=none):useO o k=o:=by
 unfold useO
 unfold findO at h
 split
 ·rename_i hk
  rw [if_pos hk] at h
  obtain ⟨d,b⟩:=o
  cases b with
  | lru key most rows=>
   simp at h
   simp [findL,h]
  | _=>rfl
 ·rfl
def updateF (X:MM) (id:Int) (k v:List Int):MM×Int:=match X.at id with
 | none=>(X,10)
 | some o=>match o.by_ with
  | .progs _=>(X,13)
  | b=>if (k.length:Int)=o.d.key∧(v.length:Int)=o.d.val then
    (match findO o k with
     | some cell=>(({ X.setO id (useO o k) with C:=writeF X.C cell v }:MM).note ⟨2,0,0,cell,[]⟩,0)
     | none=>match b with
      | .arr _=>(X,15)
      | .hash R=>if R.n=o.d.mx then (X,12) else (layF X id k v,0)
      | _=>(layF X id k v,0))
   else (X,14)
theorem find_rest {τ τ':Gh} {h h':Heap} {n m c:Nat} {L:List Nat} {X:MM} {id:Int} {o':OneM} {p:Nat} (H:MapsX τ m c L X) (I:TInv τ h n) (K:Keep (idxFp (idxOf id)) τ τ' n h h') (hLp:L[idxOf id]? = some p) (ho:OneR τ' (idxOf id) p o') (hF:o'.Fine):MapsX τ' m c L (X.setO id o'):=H.at_ I K hLp ho hF
theorem update_ok {τ : Gh} {h : Heap} {n m c kb vb : Nat} {L : List Nat} {X : MM} {ks vs : V} {k v : List Int} (I : TInv τ h n) (H : MapsX τ m c L X) (hne : X.ev.length + 1 ≤ 1000000000) (hla : X.last ≤ 4611686018427380000) (id : Int)
    (kbn : kb < n) (kbt : τ kb = none) (hks : BytesAt h kb ks k) (hkB : Byt k) (hk : k.length ≤ 140737488355000) (vbn : vb < n) (vbt : τ vb = none) (hvs : BytesAt h vb vs v) (hvc : CapOk vs) (hvB : Byt v) (hv : v.length ≤ 140737488355000) :
    CallK CC 46 [.ptr m 0, .s (.int .i64 id), ks, vs] h n fun r h' n' => r = .s (.int .i64 (updateF X id k v).2) ∧ Goes anyFp τ n h h' n' fun τ' => MapsX τ' m c L (updateF X id k v).1 := by
  refine F46_call fun hlt => ?_
  rw [F46_eq]
  refine CallK.monoN ?_ (at_ok I H id)
  rintro _ h1 n1 ⟨⟨rfl, hn⟩ | ⟨p, o, rfl, hid, hLp⟩, e1⟩ hn1
  · obtain rfl : h = h1 := e1.symm
    have eU : updateF X id k v = (X, 10) := by simp only [updateF, hn]
    rw [eU]
    simp
    exact ⟨τ, I.weaken hn1, Keep.refl _ _ _ _, H⟩
  obtain rfl : h = h1 := e1.symm
  have I1 := I.weaken hn1
  have K1 : Keep anyFp τ τ n h h := Keep.refl _ _ _ _
  have hix := (MM.at_some hid).2
  have hO := H.one _ _ _ hLp hix
  obtain ⟨by_, hp, hby⟩ := H.one _ _ _ hLp hix
  obtain ⟨hpn, pv, hg, hpv⟩ := I p _ hp
  obtain ⟨lv, evv, es, hm, _⟩ := (I m _ H.m0).2
  have hF := H.fine o (List.mem_of_getElem? hix)
  have hf := hF.by_
  have quit : ∀ e : Int, updateF X id k v = (X, e) → (V.s (.int .i64 e)) = .s (.int .i64 (updateF X id k v).2) ∧ Goes anyFp τ n h h n1 fun τ' => MapsX τ' m c L (updateF X id k v).1 := fun e h => by
    rw [h]; exact ⟨rfl, τ, I1, K1, H⟩
  by_cases hkey : (k.length : Int) = o.d.key
  · by_cases hval : (v.length : Int) = o.d.val
    · have hv1 : 1 ≤ v.length := by have := hF.may.2.2.1; omega
      have hv64 : v.length ≤ 64 := by have := hF.may.2.2.2.1; omega
      cases hbm : o.by_ with
      | progs l =>
        rw [hbm] at hby
        cases by_ with
        | progs _ =>
          simp [byV, cellsAt, hg, by_nn]
          simpa using quit 13 (by simp only [updateF, hid, hbm])
        | _ => exact hby.elim
      | _ =>
        rw [hbm] at hby hf
        cases by_ <;> first | exact hby.elim | skip
        simp [byV, cellsAt, hg, hks.len, hvs.len, hkey, hval]
        refine CallK.monoN ?_ (find_ok true I1 hO hF (by omega) hks hkB (by omega))
        rintro _ h2 n2 ⟨rfl, ⟨τ2, I2, K2, hO2⟩, _⟩ hn2
        rw [if_pos rfl] at hO2
        have H2 := find_rest H I1 K2 hLp hO2 (useO_fine k hF)
        have kk := K2.non kb (by omega) kbt
        have vv := K2.non vb (by omega) vbt
        have hks2 := hks.of kk.2
        have hvs2 := hvs.of vv.2
        cases hfo : findO o k with
        | some cell =>
          obtain ⟨lv2, evv2, es2, hm2, _⟩ := (I2 m _ H2.m0).2
          have eU : updateF X id k v = (({ X.setO id (useO o k) with C := writeF X.C cell v } : MM).note ⟨2, 0, 0, cell, []⟩, 0) := by simp only [updateF, hid, hbm, hfo]; rw [if_pos ⟨hkey, hval⟩]
          rw [eU]
          simp [pairV, hm2]
          have I2' := I2.weaken (show n2 ≤ n2 + 11 by omega)
          refine CallK.monoN ?_ (write_ok I2' H2.cs cell X.now hvs2 hvB)
          rintro _ h3 n3 ⟨τ3, I3, K3, R3⟩ hn3
          have H3 := H2.cells I2' K3 R3 H2.la0
          refine CallK.monoN ?_ (note_ok (kv := .s (.slice none 0 0)) I3 H3.m0 (Same.refl _ _ _) (Nat.le_refl _) (by show X.ev.length ≤ _; omega) 2 0 0 cell (.inl ⟨rfl, rfl⟩))
          rintro _ h4 n4 ⟨τ4, I4, K4, e4⟩ hn4
          have K2' : Keep anyFp τ2 τ2 n2 h2 h2 := Keep.refl _ _ _ _
          exact ⟨τ4, I4, K1.trans hn1 (K2.any.trans hn2 (K2'.trans (show n2 ≤ n2 + 11 by omega) (K3.any.trans hn3 K4.any))), H3.noted I3 K4 e4⟩
        | none =>
          rw [useO_none hfo] at hO2 H2
          have eS : X.setO id o = X := MapsX.set_id (τ := τ) (m := m) (c := c) (L := L) hix
          rw [eS] at H2
          simp [pairV]
          obtain ⟨by2, hp2, hby2⟩ := hO2
          obtain ⟨hpn2, pv2, hg2, hpv2⟩ := I2 p _ hp2
          rw [hbm] at hby2
          have lays : updateF X id k v = (layF X id k v, 0) → ∀ n3, n2 ≤ n3 → CallK CC 105 [.ptr m 0, .s (.int .i64 id), ks, vs] h2 n3 fun _ h' n' => (V.s (.int .i64 0)) = .s (.int .i64 (updateF X id k v).2) ∧ Goes anyFp τ n h h' n' fun τ' => MapsX τ' m c L (updateF X id k v).1 := by
            intro eU n3 hn3
            rw [eU]
            refine CallK.monoN ?_ (mlay_ok (I2.weaken hn3) H2 hne hla hid (by omega) kk.1 hks2 hkB hk (by omega) vv.1 hvs2 hvc hvB hv1 hv64)
            rintro _ h3 n4 ⟨τ3, I3, K3, H3⟩ hn4
            have K2' : Keep anyFp τ2 τ2 n2 h2 h2 := Keep.refl _ _ _ _
            exact ⟨rfl, τ3, I3, K1.trans hn1 (K2.any.trans hn2 (K2'.trans hn3 K3)), H3⟩
          cases by2 <;> first | exact hby2.elim | skip
          first
            | (simp [byV, hg2, ta_aa]
               have eU : updateF X id k v = (X, 15) := by simp only [updateF, hid, hbm, hfo]; rw [if_pos ⟨hkey, hval⟩]
               rw [eU]
               exact ⟨rfl, τ2, I2, K1.trans hn1 K2.any, H2⟩)
            | (simp [byV, hg2, ta_ha, ta_hh]
               refine CallK.monoN ?_ (hashLen_ok (n := n2 + 8) (I2.weaken (by omega)) hby2)
               rintro _ h3 n3 ⟨rfl, e3⟩ hn3
               obtain rfl : h2 = h3 := e3.symm
               rename_i R _ _ _
               by_cases hnm : R.n = o.d.mx
               · have eU : updateF X id k v = (X, 12) := by simp only [updateF, hid, hbm, hfo]; rw [if_pos ⟨hkey, hval⟩, if_pos hnm]
                 simp [hg2, hnm]
                 rw [eU]
                 exact ⟨rfl, τ2, I2.weaken (by omega), K1.trans hn1 K2.any, H2⟩
               · simp [hg2, hnm]
                 simpa using lays (by simp only [updateF, hid, hbm, hfo]; rw [if_pos ⟨hkey, hval⟩, if_neg hnm]) n3 (by omega))
            | (simp [byV, hg2, ta_la, ta_lh]
               simpa using lays (by simp only [updateF, hid, hbm, hfo]; rw [if_pos ⟨hkey, hval⟩]) n2 (Nat.le_refl _))
    · cases hbm : o.by_ with
      | progs l =>
        rw [hbm] at hby
        cases by_ with
        | progs _ =>
          simp [byV, cellsAt, hg, by_nn]
          simpa using quit 13 (by simp only [updateF, hid, hbm])
        | _ => exact hby.elim
      | _ =>
        rw [hbm] at hby
        cases by_ <;> first | exact hby.elim | skip
        simp [byV, cellsAt, hg, hks.len, hvs.len, hkey, hval]
        simpa using quit 14 (by simp only [updateF, hid, hbm]; rw [if_neg fun h => hval h.2])
  · cases hbm : o.by_ with
    | progs l =>
      rw [hbm] at hby
      cases by_ with
      | progs _ =>
        simp [byV, cellsAt, hg, by_nn]
        simpa using quit 13 (by simp only [updateF, hid, hbm])
      | _ => exact hby.elim
    | _ =>
      rw [hbm] at hby
      cases by_ <;> first | exact hby.elim | skip
      simp [byV, cellsAt, hg, hks.len, hkey]
      simpa using quit 14 (by simp only [updateF, hid, hbm]; rw [if_neg fun h => hkey h.1])
end Go.Ev
end
section
namespace Go.Ev
open Proofs
set_option maxRecDepth 20000
def delO (o:OneM) (k:List Int):OneM:=match o.by_ with
 | .hash R=>{ o with by_:=.hash (delH R k) }
 | .lru key most rows=>{ o with by_:=.lru key most (delL rows k) }
 | _=>o
def deleteF (X:MM) (id:Int) (k:List Int):MM×Int:=match X.at id with
 | none=>(X,10)
 | some o=>match o.by_ with
  | .progs _=>(X,13)
  | .arr _=>(X,13)
  | _=>if (k.length:Int)=o.d.key then (match findO o k with
    | none=>(X,10)
    | some cell=>(((X.setO id (delO o k)).drop cell).note ⟨1,id,0,0,k⟩,0)) else (X,14)
theorem delH_same (R:HashR) (k:List Int):(delH R k).key=R.key∧(delH R k).mx=R.mx:=by
 unfold delH
 split <;> exact ⟨rfl,rfl⟩
theorem delL_mem {rows:List (List Int×Int)} {k:List Int} {r:List Int×Int} (h:r∈delL rows k):r∈rows:=by
 unfold delL at h
 split at h
 ·exact outL_mem h
 ·exact h
theorem delO_fine {o:OneM} (k:List Int) (F:o.Fine):(delO o k).Fine:=by
 obtain ⟨d,b⟩:=o
 have h:=F.by_
 cases b with
 | hash R=>exact ⟨F.may,h.1,by rw [(delH_same R k).1]; exact h.2.1,by rw [(delH_same R k).2]; exact h.2.2.1,delH_fine h.2.2.2⟩
 | lru key most rows=>exact ⟨F.may,h.1,h.2.1,h.2.2.1,fun r hr=>h.2.2.2 r (delL_mem hr)⟩
 | _=>exact F
theorem deleteM_ok {τ:Gh} {h:Heap} {n m c kb:Nat} {L:List Nat} {X:MM} {ks:V} {k:List Int} (I:TInv τ h n) (H:MapsX τ m c L X) (hne:X.ev.length≤1000000000) (id:Int)
  (kbn:kb<n) (kbt:τ kb=none) (hks:BytesAt h kb ks k) (hkB:Byt k) (hk:k.length≤140737488355000) :
  CallK CC 21 [.ptr m 0,.s (.int .i64 id),ks] h n fun r h' n'=>r=.s (.int .i64 (deleteF X id k).2)∧Goes anyFp τ n h h' n' fun τ'=>MapsX τ' m c L (deleteF X id k).1:=by
 refine F21_call fun hlt=>?_
 rw [F21_eq]
 refine CallK.monoN ?_ (at_ok I H id)
 rintro _ h1 n1 ⟨⟨rfl,hn⟩ | ⟨p,o,rfl,hid,hLp⟩,e1⟩ hn1
 ·obtain rfl:h=h1:=e1.symm
  have eU:deleteF X id k=(X,10):=by simp only [deleteF,hn]
  rw [eU]
  simp
  exact ⟨τ,I.weaken hn1,Keep.refl _ _ _ _,H⟩
 obtain rfl:h=h1:=e1.symm
 have I1:=I.weaken hn1
 have K1:Keep anyFp τ τ n h h:=Keep.refl _ _ _ _
 have hix:=(MM.at_some hid).2
 obtain ⟨by_,hp,hby⟩:=H.one _ _ _ hLp hix
 obtain ⟨hpn,pv,hg,hpv⟩:=I p _ hp
 obtain ⟨lv,evv,es,hm,_⟩:=(I m _ H.m0).2
 have hF:=H.fine o (List.mem_of_getElem? hix)
 have hf:=hF.by_
 have quit:∀ e:Int,deleteF X id k=(X,e)→(V.s (.int .i64 e))=.s (.int .i64 (deleteF X id k).2)∧Goes anyFp τ n h h n1 fun τ'=>MapsX τ' m c L (deleteF X id k).1:=fun e h=>by
  rw [h]; exact ⟨rfl,τ,I1,K1,H⟩
 have rest:∀ τ2 h2 n2 x,n1≤n2→TInv τ2 h2 n2→Keep (idxFp (idxOf id)) τ τ2 n1 h h2→MapsX τ2 m c L (X.setO id (delO o k))→deleteF X id k=(((X.setO id (delO o k)).drop x).note ⟨1,id,0,0,k⟩,0) →
   CallK CC 60 [.ptr c 0,.s (.int .i64 x)] h2 n2 fun _ h3 n3=>CallK CC 61 [.ptr m 0,.s (.int .i64 id),ks] h3 n3 fun _ h' n'=>(V.s (.int .i64 0))=.s (.int .i64 (deleteF X id k).2)∧Goes anyFp τ n h h' n' fun τ'=>MapsX τ' m c L (deleteF X id k).1:=by
  intro τ2 h2 n2 x hn2 I2 K2 H2 eD
  rw [eD]
  have kk:=K2.non kb (by omega) kbt
  refine CallK.monoN ?_ (drop_ok I2 H2.cs x)
  rintro _ h3 n3 ⟨τ3,I3,K3,R3⟩ hn3
  have H3:=H2.cells I2 K3 R3 H2.la0
  have kk3:=K3.non kb (by omega) kk.1
  refine CallK.monoN ?_ (bound_ok I3 H3 (by show X.ev.length≤_; omega) id (by omega) ((hks.of kk.2).of kk3.2) hk)
  rintro _ h4 n4 ⟨t,I',K',q⟩ hn4
  exact ⟨rfl,t,I',K1.trans hn1 (K2.any.trans hn2 (K3.any.trans hn3 K'.any)),q⟩
 cases hbm:o.by_ with
 | progs l=>
  rw [hbm] at hby
  cases by_ with
  | progs _=>
   simp [byV,cellsAt,hg,ta_nk]
   simpa using quit 13 (by simp only [deleteF,hid,hbm])
  | _=>exact hby.elim
 | arr ids=>
  rw [hbm] at hby
  cases by_ with
  | arr a=>
   simp [byV,cellsAt,hg,ta_ak]
   simpa using quit 13 (by simp only [deleteF,hid,hbm])
  | _=>exact hby.elim
 | hash R=>
  rw [hbm] at hby hf
  cases by_ with
  | hash a=>
   have hby':τ a=some (.hash (idxOf id) R):=hby
   have hpa:p≠a:=by rintro rfl; rw [hp] at hby'; cases hby'
   by_cases hkey:(k.length:Int)=o.d.key
   ·simp [byV,cellsAt,hg,ta_hk,hks.len,hkey,inv_hd]
    refine CallK.monoN ?_ (hashDel_ok I1 hby' (by omega) hks hkB (by omega))
    rintro _ h2 n2 ⟨rfl,τ2,I2,K2,e2⟩ hn2
    have K2':Keep (idxFp (idxOf id)) τ τ2 n1 h h2:=K2.mono fun b k e hb=>by rw [show b=a from hb,hby'] at e; cases e; rfl
    have hfo:findO o k=findH R k:=by unfold findO; rw [if_pos hkey,hbm]
    have eO:delO o k=⟨o.d,.hash (delH R k)⟩:=by unfold delO; rw [hbm]
    cases hfh:findH R k with
    | none=>
     have:delH R k=R:=by
      unfold findH at hfh
      cases hpl:placeF R k with
      | none=>unfold delH; rw [hpl]
      | some p=>rw [hpl] at hfh; cases hfh
     rw [this,upT_id hby'] at e2
     subst e2
     have eD:deleteF X id k=(X,10):=by simp only [deleteF,hid,hbm,hfo,hfh]; rw [if_pos hkey]
     simp [pairV]
     rw [eD]
     exact ⟨rfl,_,I2,K1.trans hn1 K2.any,by
      have H2:=H.at_ I1 K2' hLp (o:=o) (by have:=OneR.put (m:=.hash R) I1 hp hpa K2 hby'; obtain ⟨d,b⟩:=o; cases hbm; exact this) hF
      rw [MapsX.set_id (τ:=τ2) (m:=m) (c:=c) (L:=L) hix] at H2
      exact H2⟩
    | some x=>
     have eD:deleteF X id k=(((X.setO id (delO o k)).drop x).note ⟨1,id,0,0,k⟩,0):=by simp only [deleteF,hid,hbm,hfo,hfh]; rw [if_pos hkey]
     have H2:MapsX τ2 m c L (X.setO id (delO o k)):=H.at_ I1 K2' hLp (by rw [eO]; exact OneR.put I1 hp hpa K2 (by show τ2 a=_; rw [e2,upT_same])) (delO_fine k hF)
     obtain ⟨lv2,evv2,es2,hm2,_⟩:=(I2 m _ H2.m0).2
     simp [pairV,hm2]
     simpa using rest τ2 h2 n2 x hn2 I2 K2' H2 eD
   ·simp [byV,cellsAt,hg,ta_hk,hks.len,hkey]
    simpa using quit 14 (by simp only [deleteF,hid,hbm]; rw [if_neg hkey])
  | _=>exact hby.elim
 | lru key most rows=>
  rw [hbm] at hby hf
  cases by_ with
  | lru a=>
   have hby':τ a=some (.lru (idxOf id) key most rows):=hby
   have hpa:p≠a:=by rintro rfl; rw [hp] at hby'; cases hby'
   by_cases hkey:(k.length:Int)=o.d.key
   ·simp [byV,cellsAt,hg,ta_lk,hks.len,hkey,inv_ld]
    refine CallK.monoN ?_ (lruDel_ok I1 hby' (by omega) hks hkB)
    rintro _ h2 n2 ⟨rfl,τ2,I2,K2,e2⟩ hn2
    have K2':Keep (idxFp (idxOf id)) τ τ2 n1 h h2:=K2.mono fun b k e hb=>by rw [show b=a from hb,hby'] at e; cases e; rfl
    have hfo:findO o k=(idxL rows k).map fun i=>(rows.getD i ([],0)).2:=by unfold findO; rw [if_pos hkey,hbm]
    have eO:delO o k=⟨o.d,.lru key most (delL rows k)⟩:=by unfold delO; rw [hbm]
    cases hfh:idxL rows k with
    | none=>
     have:delL rows k=rows:=by unfold delL; rw [hfh]
     rw [this] at e2
     have eD:deleteF X id k=(X,10):=by simp only [deleteF,hid,hbm,hfo,hfh]; rw [if_pos hkey]; rfl
     simp [pairV]
     rw [eD]
     exact ⟨rfl,_,I2,K1.trans hn1 K2.any,by
      have H2:=H.at_ I1 K2' hLp (o:=o) (by have:=OneR.put (m:=.lru key most rows) I1 hp hpa K2 e2; obtain ⟨d,b⟩:=o; cases hbm; exact this) hF
      rw [MapsX.set_id (τ:=τ2) (m:=m) (c:=c) (L:=L) hix] at H2
      exact H2⟩
    | some i=>
     rw [hfh] at hfo
     obtain ⟨x,hx⟩:∃ x,x=(rows.getD i ([],0)).2:=⟨_,rfl⟩
     have hfo':findO o k=some x:=by rw [hfo,hx]; rfl
     have eD:deleteF X id k=(((X.setO id (delO o k)).drop x).note ⟨1,id,0,0,k⟩,0):=by simp only [deleteF,hid,hbm,hfo']; rw [if_pos hkey]
     have H2:MapsX τ2 m c L (X.setO id (delO o k)):=H.at_ I1 K2' hLp (by rw [eO]; exact OneR.put I1 hp hpa K2 e2) (delO_fine k hF)
     obtain ⟨lv2,evv2,es2,hm2,_⟩:=(I2 m _ H2.m0).2
     simp only [Option.map_some,← hx]
     simp [pairV,hm2]
     simpa using rest τ2 h2 n2 x hn2 I2 K2' H2 eD
   ·simp [byV,cellsAt,hg,ta_lk,hks.len,hkey]
    simpa using quit 14 (by simp only [deleteF,hid,hbm]; rw [if_neg hkey])
  | _=>exact hby.elim
theorem mFind_ok {τ:Gh} {h:Heap} {n m c kb:Nat} {L:List Nat} {X:MM} {ks:V} {k:List Int} (I:TInv τ h n) (H:MapsX τ m c L X) (id:Int) (kbn:kb<n) (hks:BytesAt h kb ks k) (hkB:Byt k) (hk:k.length≤140737488355000) :
  CallK CC 47 [.ptr m 0,.s (.int .i64 id),ks] h n fun r h' n'=>r=pairV ((X.at id).bind fun o=>findO o k)∧Goes anyFp τ n h h' n' fun τ'=>MapsX τ' m c L (match X.at id with | some o=>X.setO id (useO o k) | none=>X):=by
 refine F47_call fun hlt=>?_
 rw [F47_eq]
 refine CallK.monoN ?_ (at_ok I H id)
 have K1:Keep anyFp τ τ n h h:=Keep.refl _ _ _ _
 rintro _ h1 n1 ⟨⟨rfl,hn⟩ | ⟨p,o,rfl,hid,hLp⟩,e1⟩ hn1
 ·obtain rfl:h=h1:=e1.symm
  rw [hn]
  refine CallK.monoN ?_ (findN_ok ks (.s (.bool true)))
  rintro _ h2 n2 ⟨rfl,e2⟩ hn2
  obtain rfl:h=h2:=e2.symm
  simp [pairV]
  exact ⟨τ,I.weaken (by omega),K1,H⟩
 ·obtain rfl:h=h1:=e1.symm
  rw [hid]
  have hix:=(MM.at_some hid).2
  have hF:=H.fine o (List.mem_of_getElem? hix)
  refine CallK.monoN ?_ (find_ok true (I.weaken hn1) (H.one _ _ _ hLp hix) hF (by omega) hks hkB (by omega))
  rintro _ h2 n2 ⟨rfl,⟨τ2,I2,K2,hO2⟩,_⟩ hn2
  rw [if_pos rfl] at hO2
  simp [pairV]
  exact ⟨τ2,I2,K1.trans hn1 K2.any,find_rest H (I.weaken hn1) K2 hLp hO2 (useO_fine k hF)⟩
theorem mPeek_ok {τ:Gh} {h:Heap} {n m c kb:Nat} {L:List Nat} {X:MM} {ks:V} {k:List Int} (I:TInv τ h n) (H:MapsX τ m c L X) (id:Int) (kbn:kb<n) (hks:BytesAt h kb ks k) (hkB:Byt k) (hk:k.length≤140737488355000) :
  CallK CC 13 [.ptr m 0,.s (.int .i64 id),ks] h n fun r h' n'=>r=pairV ((X.at id).bind fun o=>findO o k)∧Same n [] h h':=by
 refine F13_call fun hlt=>?_
 rw [F13_eq]
 refine CallK.monoN ?_ (at_ok I H id)
 rintro _ h1 n1 ⟨⟨rfl,hn⟩ | ⟨p,o,rfl,hid,hLp⟩,e1⟩ hn1
 ·obtain rfl:h=h1:=e1.symm
  rw [hn]
  refine CallK.monoN ?_ (findN_ok ks (.s (.bool false)))
  rintro _ h2 n2 ⟨rfl,e2⟩ hn2
  obtain rfl:h=h2:=e2.symm
  simp [pairV]
  exact Same.refl _ _ _
 ·obtain rfl:h=h1:=e1.symm
  rw [hid]
  have hix:=(MM.at_some hid).2
  have hF:=H.fine o (List.mem_of_getElem? hix)
  refine CallK.monoN ?_ (find_ok false (I.weaken hn1) (H.one _ _ _ hLp hix) hF (by omega) hks hkB (by omega))
  rintro _ h2 n2 ⟨rfl,_,hs⟩ hn2
  simp [pairV]
  exact fun x hx hf=>hs rfl x (by omega) hf
end Go.Ev
end
section
namespace Go.Ev
open Proofs
set_option maxRecDepth 20000
def setProgF (X:MM) (id idx prog:Int):MM×Int:=match X.at id with
 | none=>(X,10)
 | some o=>match o.by_ with
  | .progs l=>if 0≤idx∧idx≤o.d.mx-1 then (if prog<0 then (X,1) else ((X.setO id { o with by_:=.progs (splice l idx.toNat [prog]) }).note ⟨3,id,idx,0,[]⟩,0)) else (X,15)
  | _=>(X,13)
theorem setProg_ok {τ:Gh} {h:Heap} {n m c:Nat} {L:List Nat} {X:MM} (I:TInv τ h n) (H:MapsX τ m c L X) (hne:X.ev.length≤1000000000) (id idx prog:Int) :
  CallK CC 52 [.ptr m 0,.s (.int .i64 id),.s (.int .i64 idx),.s (.int .i64 prog)] h n fun r h' n'=>r=.s (.int .i64 (setProgF X id idx prog).2)∧Goes anyFp τ n h h' n' fun τ'=>MapsX τ' m c L (setProgF X id idx prog).1:=by
 refine F52_call fun hlt=>?_
 rw [F52_eq]
 refine CallK.monoN ?_ (at_ok I H id)
 rintro _ h1 n1 ⟨⟨rfl,hn⟩ | ⟨p,o,rfl,hid,hLp⟩,e1⟩ hn1
 ·obtain rfl:h=h1:=e1.symm
  have eU:setProgF X id idx prog=(X,10):=by simp only [setProgF,hn]
  rw [eU]
  simp
  exact ⟨τ,I.weaken hn1,Keep.refl _ _ _ _,H⟩
 obtain rfl:h=h1:=e1.symm
 have I1:=I.weaken hn1
 have K1:Keep anyFp τ τ n h h:=Keep.refl _ _ _ _
 have hix:=(MM.at_some hid).2
 obtain ⟨by_,hp,hby⟩:=H.one _ _ _ hLp hix
 obtain ⟨hpn,pv,hg,hpv⟩:=I p _ hp
 obtain ⟨lv,evv,es,hm,_⟩:=(I m _ H.m0).2
 have hF:=H.fine o (List.mem_of_getElem? hix)
 have hf:=hF.by_
 have hmx:=hF.may.2.2.2.2.2.1
 have quit:∀ (e:Int) (n2:Nat),n≤n2→setProgF X id idx prog=(X,e)→(V.s (.int .i64 e))=.s (.int .i64 (setProgF X id idx prog).2)∧Goes anyFp τ n h h n2 fun τ'=>MapsX τ' m c L (setProgF X id idx prog).1:=fun e n2 hn h=>by
  rw [h]; exact ⟨rfl,τ,I.weaken hn,K1,H⟩
 cases hbm:o.by_ with
 | progs l=>
  rw [hbm] at hby hf
  cases by_ with
  | progs l'=>
   have hll:l'=l:=hby
   subst hll
   have em:wrapF .i64 (o.d.mx-1)=o.d.mx-1:=wrapF_i64 (by have:=hF.may.2.2.2.2.1; omega) (by omega)
   simp [byV,cellsAt,hg,by_nn',em]
   refine CallK.monoN ?_ (within_ok _ _ _ _ _)
   rintro _ h2 n2 ⟨rfl,e2⟩ hn2
   obtain rfl:h=h2:=e2.symm
   by_cases hidx:0≤idx∧idx≤o.d.mx-1
   ·by_cases hpr:prog<0
    ·simp [hidx,hpr]
     simpa using quit 1 n2 (by omega) (by simp only [setProgF,hid,hbm]; rw [if_pos hidx,if_pos hpr])
    ·obtain ⟨q,rfl⟩:∃ q:Nat,idx=q:=⟨idx.toNat,by omega⟩
     have eU:setProgF X id (q:Int) prog=((X.setO id { o with by_:=.progs (splice l' q [prog]) }).note ⟨3,id,q,0,[]⟩,0):=by simp only [setProgF,hid,hbm]; rw [if_pos hidx,if_neg hpr]; rfl
     rcases hpv with ⟨l2,e2,d,oo,cc,op,A,es2,rfl,hd,hgd,hA,c1,c2⟩ | ⟨_,hno⟩
     ·cases e2
      have hql:q<l'.length:=by have:=hf.2; omega
      obtain ⟨w,hw⟩:∃ w,w=V.s (Value.int IntKind.i64 prog):=⟨_,rfl⟩
      have e6:storeCells h d (oo+q) (.one w)=some (h.set d (.cells (.lst (splice A (oo+q) [w])) es2)):=storeCells_lst hgd (by show oo+q+1≤A.length; omega)
      rw [hw] at e6
      simp [hidx,hpr,hg,blt_dec,hql,e6]
      have key:∀ x,x<n2→x≠p→(∀ i,τ x≠some (.part p i))→(h.set d (.cells (.lst (splice A (oo+q) [.s (.int .i64 prog)])) es2)).get x=h.get x:=fun x _ _ hx=>by rw [Tree.get_set,if_neg (by rintro rfl; exact hx 0 hd)]
      have pd:p≠d:=by rintro rfl; rw [hp] at hd; cases hd
      have I2:=I.weaken (show n≤n2 by omega)
      have hsl:(splice l' q [prog]).length=l'.length:=splice_length (by simp; omega)
      have I3:TInv (upT τ p (.one (idxOf id) o.d (.progs (splice l' q [prog])))) (h.set d (.cells (.lst (splice A (oo+q) [.s (.int .i64 prog)])) es2)) n2:=
       I2.put (Nat.le_refl _) hp (noPart (by simp)) (noPart (by simp)) key ⟨.slice d oo l'.length cc op,by rw [Tree.get_set,if_neg pd]; exact hg,.inl ⟨_,rfl,NumsS.put (k:=.i64) (l:=l') (m:=[prog]) (j:=q) (by rw [upT_other (Ne.symm pd)]; exact hd) hA c1 c2 (by simp; omega) (by rw [Tree.get_set,if_pos rfl]; rfl)⟩⟩
      have K3:Keep (idxFp (idxOf id)) τ (upT τ p (.one (idxOf id) o.d (.progs (splice l' q [prog])))) n2 h (h.set d (.cells (.lst (splice A (oo+q) [.s (.int .i64 prog)])) es2)):=Keep.put I2 hp (noPart (by simp)) key rfl
      have H3:MapsX (upT τ p (.one (idxOf id) o.d (.progs (splice l' q [prog])))) m c L (X.setO id { o with by_:=.progs (splice l' q [prog]) }):=H.at_ I2 K3 hLp ⟨.progs (splice l' q [prog]),upT_same _ _ _,rfl⟩ ⟨hF.may,hf.1,by rw [hsl]; exact hf.2⟩
      rw [eU]
      refine CallK.monoN ?_ (note_ok (kv:=.s (.slice none 0 0)) I3 H3.m0 (Same.refl _ _ _) (Nat.le_refl _) (by show X.ev.length≤_; omega) 3 id q 0 (.inl ⟨rfl,rfl⟩))
      rintro _ h4 n4 ⟨τ4,I4,K4,e4⟩ hn4
      exact ⟨rfl,τ4,I4,K1.trans (show n≤n2 by omega) (K3.any.trans (Nat.le_refl _) K4.any),H3.noted I3 K4 e4⟩
     ·exact absurd rfl (hno l')
   ·simp [hidx]
    simpa using quit 15 n2 (by omega) (by simp only [setProgF,hid,hbm]; rw [if_neg hidx])
  | _=>exact hby.elim
 | _=>
  rw [hbm] at hby
  cases by_ <;> first | exact hby.elim | skip
  simp [byV,cellsAt,hg]
  simpa using quit 13 n1 hn1 (by simp only [setProgF,hid,hbm])
def tickF (X:MM) (x:Int):MM:={ X with now:=wrapF .i64 (X.now+minW (maxW x 0) 1099511627776) }
theorem tick_ok {τ:Gh} {h:Heap} {n m c:Nat} {L:List Nat} {X:MM} (I:TInv τ h n) (H:MapsX τ m c L X) (x:Int) :
  CallK CC 53 [.ptr m 0,.s (.int .i64 x)] h n fun r h' n'=>Goes anyFp τ n h h' n' fun τ'=>MapsX τ' m c L (tickF X x):=by
 refine F53_call fun hlt=>?_
 rw [F53_eq]
 obtain ⟨hmn,lv,evv,es,hm,hL,hE,hEs⟩:=I m _ H.m0
 simp [cellsAt,hm,storeCells,cellsOwn,Rope.put,ble_dec]
 have key:∀ (ob:O) x,x<n→x≠m→(∀ i,τ x≠some (.part m i))→(h.set m ob).get x=h.get x:=fun ob x _ hx _=>by rw [Tree.get_set,if_neg hx]
 have up:∀ {x i k},τ x=some (.part m i)→upT τ m k x=some (.part m i):=fun {x i k} hx=>by rw [upT_other (by rintro rfl; rw [H.m0] at hx; cases hx)]; exact hx
 have gx:∀ {ob x i},τ x=some (.part m i)→(h.set m ob).get x=h.get x:=fun {ob x i} hx=>by rw [Tree.get_set,if_neg (by rintro rfl; rw [H.m0] at hx; cases hx)]
 have K2:∀ ob,Keep (onlyFp m) τ (upT τ m (.maps c L (tickF X x).now X.ev)) n h (h.set m ob):=fun ob=>Keep.put I H.m0 (noPart (by simp)) (key ob) rfl
 refine ⟨upT τ m (.maps c L (tickF X x).now X.ev),I.put (Nat.le_refl _) H.m0 (noPart (by simp)) (noPart (by simp)) (key _) ⟨lv,evv,es,by rw [Tree.get_set,if_pos rfl]; rfl,hL.of fun x hx=>⟨gx hx,up hx⟩,hE.of fun x hx=>⟨gx hx,up hx⟩,hEs.of fun x hx=>⟨gx hx,up hx⟩⟩,(K2 _).any,?_⟩
 have nm:∀ b k,τ b=some k→(cellFp b k∨∃ i,idxFp i b k)→¬ onlyFp m b k:=fun b k hb hk hm=>by
  rw [show b=m from hm,H.m0] at hb
  cases hb
  rcases hk with hk | ⟨_,hk⟩ <;> exact hk
 exact ⟨upT_same _ _ _,H.cs.keep I (K2 .defd) fun b k hb hc=>nm b k hb (.inl hc),H.len,fun i p o h1 h2=>(H.one i p o h1 h2).keep I (K2 .defd) fun b k hb hc=>nm b k hb (.inr ⟨i,hc⟩),H.fine,H.l8,H.la0⟩
theorem mStore_ok {τ:Gh} {h:Heap} {n m c:Nat} {L:List Nat} {X:MM} (I:TInv τ h n) (H:MapsX τ m c L X) (hne:X.ev.length≤1000000000) (x off size v:Int) :
  CallK CC 22 [.ptr m 0,.s (.int .i64 x),.s (.int .i64 off),.s (.int .i64 size),.s (.int .u64 v)] h n fun r h' n'=>Goes anyFp τ n h h' n' fun τ'=>
   (r=.s (.bool false)∧¬ InC X.C x off size∧MapsX τ' m c L X)∨(r=.s (.bool true)∧InC X.C x off size∧MapsX τ' m c L (({ X with C:=storeF X.C x off size v }:MM).note ⟨2,0,0,x,[]⟩)):=by
 refine F22_call fun hlt=>?_
 rw [F22_eq]
 obtain ⟨hmn,lv,evv,es,hm,_⟩:=I m _ H.m0
 have I1:=I.weaken (show n≤n+14 by omega)
 have K1:Keep anyFp τ τ n h h:=Keep.refl _ _ _ _
 simp [cellsAt,hm]
 refine CallK.monoN ?_ (storeC_ok I1 H.cs x off size v X.now)
 rintro r h2 n2 ⟨τ2,I2,K2,hr⟩ hn2
 rcases hr with ⟨rfl,hno,R⟩ | ⟨rfl,hyes,R⟩
 ·simp
  exact ⟨τ2,I2,K1.trans (show n≤n+14 by omega) K2.any,hno,H.cells I1 K2 R H.la0⟩
 ·have H2:=H.cells I1 K2 R H.la0
  simp
  refine CallK.monoN ?_ (note_ok (kv:=.s (.slice none 0 0)) I2 H2.m0 (Same.refl _ _ _) (Nat.le_refl _) (by show X.ev.length≤_; omega) 2 0 0 x (.inl ⟨rfl,rfl⟩))
  rintro _ h4 n4 ⟨τ4,I4,K4,e4⟩ hn4
  exact ⟨τ4,I4,K1.trans (show n≤n+14 by omega) (K2.any.trans hn2 K4.any),hyes,H2.noted I2 K4 e4⟩
def sweepF (X:MM):MM:={ X with C:=delF X.C (goneF X.C X.last.toNat) }
theorem sweepM_ok {τ:Gh} {h:Heap} {n m c:Nat} {L:List Nat} {X:MM} (I:TInv τ h n) (H:MapsX τ m c L X) (hla:X.last≤8796093022208) :
  CallK CC 20 [.ptr m 0] h n fun r h' n'=>r=.s (.int .i64 (goneF X.C X.last.toNat).length)∧Goes anyFp τ n h h' n' fun τ'=>MapsX τ' m c L (sweepF X):=by
 refine F20_call fun hlt=>?_
 rw [F20_eq]
 obtain ⟨hmn,lv,evv,es,hm,_⟩:=I m _ H.m0
 simp [cellsAt,hm]
 refine CallK.monoN ?_ (sweepC_ok I H.cs H.la0 hla)
 rintro _ h2 n2 ⟨rfl,τ2,I2,K2,R2⟩ hn2
 exact ⟨rfl,τ2,I2,K2.any,H.cells I K2 R2 H.la0⟩
theorem mBytes_ok {τ:Gh} {h:Heap} {n m c:Nat} {L:List Nat} {X:MM} (I:TInv τ h n) (H:MapsX τ m c L X) (x:Int) :
  CallK CC 16 [.ptr m 0,.s (.int .i64 x)] h n fun v h' n'=>NewB n h' n' v (bytesF X.C x)∧Same n [] h h':=by
 refine F16_call fun hlt=>?_
 rw [F16_eq]
 obtain ⟨hmn,lv,evv,es,hm,_⟩:=I m _ H.m0
 simp [cellsAt,hm]
 exact bytesC_ok I H.cs x
theorem mSize_ok {τ:Gh} {h:Heap} {n m c:Nat} {L:List Nat} {X:MM} (I:TInv τ h n) (H:MapsX τ m c L X) (x:Int) :
  CallK CC 24 [.ptr m 0,.s (.int .i64 x)] h n fun v h' n'=>v=.s (.int .i64 (bytesF X.C x).length)∧Same n [] h h':=by
 refine F24_call fun hlt=>?_
 rw [F24_eq]
 obtain ⟨hmn,lv,evv,es,hm,_⟩:=I m _ H.m0
 simp [cellsAt,hm]
 exact sizeC_ok I H.cs x
theorem mLoad_ok {τ:Gh} {h:Heap} {n m c:Nat} {L:List Nat} {X:MM} (I:TInv τ h n) (H:MapsX τ m c L X) (x off size:Int) :
  CallK CC 23 [.ptr m 0,.s (.int .i64 x),.s (.int .i64 off),.s (.int .i64 size)] h n fun v h' n'=>LoadP X.C x off size v∧Same n [] h h':=by
 refine F23_call fun hlt=>?_
 rw [F23_eq]
 obtain ⟨hmn,lv,evv,es,hm,_⟩:=I m _ H.m0
 simp [cellsAt,hm]
 refine CallK.monoN ?_ (loadC_ok I H.cs x off size)
 rintro v h1 n1 ⟨hv,hs⟩ hn1
 have:∃ a b,v=.tup [a,b]:=by
  rcases hv with ⟨rfl,_⟩ | ⟨_,_,_,_,rfl⟩ <;> exact ⟨_,_,rfl⟩
 obtain ⟨a,b,rfl⟩:=this
 simp
 exact ⟨hv,hs⟩
end Go.Ev
end
section
namespace Go.Ev
open Proofs
set_option maxRecDepth 20000
theorem TInv.give {τ τ1:Gh} {h:Heap} {n:Nat} (I:TInv τ h n) (le:∀ x k,τ x=some k→τ1 x=some k) (w:∀ x k,τ1 x=some k→τ x=some k∨(x<n∧WT τ1 h x k)):TInv τ1 h n:=fun x k e=>by
 rcases w x k e with e | e
 ·obtain ⟨h1,h2⟩:=I x k e
  exact ⟨h1,h2.of rfl fun y i hy=>⟨rfl,le _ _ hy⟩⟩
 ·exact e
theorem Keep.give {fp:Fp} {τ0 τ τ1:Gh} {h0 h:Heap} {n0:Nat} (K:Keep fp τ0 τ n0 h0 h) (t:∀ x,x<n0→τ1 x=τ x):Keep fp τ0 τ1 n0 h0 h:=
 ⟨fun b k hb e hf=>by rw [t b hb]; exact K.ty b k hb e hf,fun b hb e=>by rw [t b hb]; exact K.non b hb e,K.mem⟩
theorem ByR.le {τ τ':Gh} {i:Nat} {b:ByP} {m:ByM} (H:ByR τ i b m) (le:∀ x k,τ x=some k→τ' x=some k):ByR τ' i b m:=by
 cases b <;> cases m <;> first | exact H | exact le _ _ H | exact H.elim
def NewOne (τ:Gh) (h:Heap) (n0 n p i:Nat) (o:OneM):Prop:=∃ by_ pv,h.get p=some (.cells (.lst [.s (.int .i64 o.d.kind),.s (.int .i64 o.d.key),.s (.int .i64 o.d.val),.s (.int .i64 o.d.mx),byV by_,pv]) 6)∧ByR τ i by_ o.by_ ∧
 ((pv=.s (.slice none 0 0)∧∀ l,by_≠.progs l)∨∃ l dp,by_=.progs l∧n0≤dp∧dp<n∧dp≠p∧τ dp=none∧pv=.slice dp 0 l.length l.length false∧h.get dp=some (.cells (.lst (kV .i64 l)) 1))
theorem created {τ0 τ:Gh} {h0 h h3:Heap} {n0 n n3 m c p d':Nat} {L:List Nat} {X:MM} {o:OneM} {v':V} (K0:Keep anyFp τ0 τ n0 h0 h) (h0n:n0≤n) (I:TInv τ h n) (H:MapsX τ m c L X) (hl:L.length<8) (pn0:n0≤p) (pn:p<n) (pt:τ p=none) (mn0:m<n0)
  (hO:NewOne τ h n0 n p L.length o) (hF:o.Fine) (hn3:n≤n3) (hd':n≤d'∨τ d'=some (.part m 0)) (hdn:d' < n3) (hv':v'≠.s (.slice none 0 0)) (hG:GrowAt h3 d' v' 1 (L.length+1) ((L.map fun p=>.ptr p 0)++[.ptr p 0])) (hs3:∀ x,x<n→τ x≠some (.part m 0)→h3.get x=h.get x)
  {lv ev:V} (hm:h.get m=some (.cells (.lst [.ptr c 0,lv,.s (.int .i64 X.now),ev]) 4)) :
  Goes anyFp τ0 n0 h0 (h3.set m (.cells (.lst [.ptr c 0,v',.s (.int .i64 X.now),ev]) 4)) n3 fun τ'=>MapsX τ' m c (L++[p]) { X with ones:=X.ones++[o] }:=by
 obtain ⟨by_,pv,hg,hby,hpv⟩:=hO
 obtain ⟨τ1,l1,w1,t1,tp,tm⟩:∃ τ1:Gh,(∀ x k,τ x=some k→τ1 x=some k)∧(∀ x k,τ1 x=some k→τ x=some k∨(x<n∧WT τ1 h x k))∧(∀ x,x<n0→τ1 x=τ x)∧τ1 p=some (.one L.length o.d by_)∧(∀ x i,τ1 x=some (.part m i)→τ x=some (.part m i)):=by
  have hpm:p≠m:=by omega
  rcases hpv with ⟨rfl,hno⟩ | ⟨l,dp,rfl,q1,q2,q3,q4,rfl,q5⟩
  ·refine ⟨upT τ p (.one L.length o.d by_),fun x k e=>by rw [upT_other (by rintro rfl; rw [pt] at e; cases e)]; exact e,fun x k e=>?_,fun x hx=>upT_other (by omega),upT_same _ _ _,fun x i e=>?_⟩
   ·by_cases hx:x=p
    ·subst hx; rw [upT_same] at e; cases e; exact .inr ⟨pn,_,hg,.inr ⟨rfl,hno⟩⟩
    ·rw [upT_other hx] at e; exact .inl e
   ·by_cases hx:x=p
    ·subst hx; rw [upT_same] at e; cases e
    ·rw [upT_other hx] at e; exact e
  ·refine ⟨upT (upT τ dp (.part p 0)) p (.one L.length o.d (.progs l)),fun x k e=>by rw [upT_other (by rintro rfl; rw [pt] at e; cases e),upT_other (by rintro rfl; rw [q4] at e; cases e)]; exact e,fun x k e=>?_,fun x hx=>by rw [upT_other (by omega),upT_other (by omega)],upT_same _ _ _,fun x i e=>?_⟩
   ·by_cases hx:x=p
    ·subst hx; rw [upT_same] at e; cases e
     exact .inr ⟨pn,_,hg,.inl ⟨l,rfl,dp,0,l.length,false,_,1,rfl,by rw [upT_other q3,upT_same],q5,by rw [List.drop_zero]; exact List.take_of_length_le (by simp),Nat.le_refl _,by simp⟩⟩
    ·rw [upT_other hx] at e
     by_cases hx2:x=dp
     ·subst hx2; rw [upT_same] at e; cases e; exact .inr ⟨q2,trivial⟩
     ·rw [upT_other hx2] at e; exact .inl e
   ·by_cases hx:x=p
    ·subst hx; rw [upT_same] at e; cases e
    ·rw [upT_other hx] at e
     by_cases hx2:x=dp
     ·subst hx2; rw [upT_same] at e; cases e; exact absurd rfl hpm
     ·rw [upT_other hx2] at e; exact e
 have I1:TInv τ1 h n:=I.give l1 w1
 have K1:Keep anyFp τ0 τ1 n0 h0 h:=K0.give t1
 have m1:τ1 m=some (.maps c L X.now X.ev):=l1 _ _ H.m0
 have hdm:d'≠m:=by
  rcases hd' with h | h
  ·omega
  ·rintro rfl; rw [H.m0] at h; cases h
 generalize hh4:(h3.set m (.cells (.lst [.ptr c 0,v',.s (.int .i64 X.now),ev]) 4))=h4
 have g4:h4.get m=some (.cells (.lst [.ptr c 0,v',.s (.int .i64 X.now),ev]) 4):=by rw [← hh4,Tree.get_set,if_pos rfl]
 have e4:∀ x,x≠m→h4.get x=h3.get x:=fun x hx=>by rw [← hh4,Tree.get_set,if_neg hx]
 have tlt:∀ x,x<n→x≠m→upT (upT τ1 d' (.part m 0)) m (.maps c (L++[p]) X.now X.ev) x=τ1 x:=fun x hx hxm=>by
  rw [upT_other hxm]
  by_cases hxd:x=d'
  ·subst hxd
   rcases hd' with h | h
   ·omega
   ·rw [upT_same,l1 _ _ h]
  ·rw [upT_other hxd]
 have hsx:∀ x,x<n→x≠m→(∀ i,τ1 x≠some (.part m i))→h4.get x=h.get x:=fun x hx hxm hxp=>by rw [e4 x hxm,hs3 x hx fun e=>hxp 0 (l1 _ _ e)]
 obtain ⟨_,lv2,ev2,es,hm2,hL,hE,hEs⟩:=I m _ H.m0
 rw [hm] at hm2
 injection hm2 with e0
 injection e0 with e1 _
 injection e1 with e2
 injection e2 with _ e3
 injection e3 with elv e5
 injection e5 with _ e6
 injection e6 with eev _
 subst elv eev
 have I4:TInv (upT (upT τ1 d' (.part m 0)) m (.maps c (L++[p]) X.now X.ev)) h4 n3:=by
  refine I1.go m hn3 (fun x i e=>by rw [m1] at e; cases e) tlt hsx fun x k e hx=>?_
  by_cases hxm:x=m
  ·subst hxm; rw [upT_same] at e; cases e
   have fr:∀ y i,i≠0→τ y=some (.part x i)→h4.get y=h.get y∧upT (upT τ1 d' (.part x 0)) x (.maps c (L++[p]) X.now X.ev) y=some (.part x i):=fun y i hi hy=>by
    have hyn:=(I y _ hy).1
    have hyx:y≠x:=by rintro rfl; rw [H.m0] at hy; cases hy
    exact ⟨by rw [e4 y hyx,hs3 y hyn (by rw [hy]; intro e; cases e; exact hi rfl)],by rw [tlt y hyn hyx]; exact l1 _ _ hy⟩
   refine ⟨by omega,v',ev,es,g4,.inr ⟨hv',d',by rw [upT_other hdm,upT_same],?_⟩,hE.of fun y hy=>fr y 1 (by omega) hy,hEs.of fun y hy=>fr y 2 (by omega) hy⟩
   have:=hG.of (e4 d' hdm)
   simpa using this
  ·rw [upT_other hxm] at e
   by_cases hxd:x=d'
   ·subst hxd; rw [upT_same] at e; cases e; exact ⟨hdn,trivial⟩
   ·rw [upT_other hxd,I1.none (by omega)] at e; cases e
 have K4:Keep (onlyFp m) τ1 (upT (upT τ1 d' (.part m 0)) m (.maps c (L++[p]) X.now X.ev)) n h h4:=by
  refine ⟨fun x k hx e hf=>?_,fun x hx e=>?_,fun y k x hy hx e hk hf hp=>?_⟩
  ·by_cases hxm:x=m
   ·subst hxm
    rw [m1] at e; cases e
    rcases hf with hf | ⟨_,_,hf⟩
    ·exact absurd rfl hf
    ·cases hf
   ·rw [tlt x hx hxm]; exact e
  ·have hxm:x≠m:=by rintro rfl; rw [m1] at e; cases e
   exact ⟨by rw [tlt x hx hxm]; exact e,hsx x hx hxm fun i=>by rw [e]; simp⟩
  ·refine hsx x hx ?_ ?_
   ·rcases hp with rfl | ⟨i,hp⟩
    ·exact hf
    ·rintro rfl; rw [m1] at hp; cases hp
   ·intro i hp'
    rcases hp with rfl | ⟨j,hp⟩
    ·exact hk m i (by rw [e] at hp'; exact Option.some.inj hp')
    ·rw [hp] at hp'; cases hp'; exact hf rfl
 have nm:∀ b k,τ1 b=some k→(cellFp b k∨∃ i,idxFp i b k)→¬ onlyFp m b k:=fun b k hb hk hm=>by
  rw [show b=m from hm,m1] at hb
  cases hb
  rcases hk with hk | ⟨_,hk⟩ <;> exact hk
 have R1:CellsR τ1 c X.C X.last:=by
  obtain ⟨M,g,q1,q2,q3⟩:=H.cs
  refine ⟨M,g,l1 _ _ q1,l1 _ _ q2,fun x=>?_⟩
  rcases q3 x with h | ⟨l,d,q,a1,a2,a3⟩
  ·exact .inl h
  ·exact .inr ⟨l,d,q,a1,a2,l1 _ _ a3⟩
 have hll:=H.len
 refine ⟨_,I4,K1.trans h0n K4.any,⟨upT_same _ _ _,R1.keep I1 K4 fun b k hb hc=>nm b k hb (.inl hc),by simp [H.len],fun i q o' h1 h2=>?_,fun o' ho'=>?_,by simp; omega,H.la0⟩⟩
 ·by_cases hi:i<L.length
  ·rw [List.getElem?_append_left hi] at h1
   rw [List.getElem?_append_left (by omega)] at h2
   obtain ⟨b,q1,q2⟩:=H.one i q o' h1 h2
   exact OneR.keep ⟨b,l1 _ _ q1,q2.le l1⟩ I1 K4 fun b k hb hc=>nm b k hb (.inr ⟨i,hc⟩)
  ·have hi2:i=L.length:=by
    have:=(List.getElem?_eq_some_iff.1 h1).1
    simp at this; omega
   subst hi2
   rw [List.getElem?_append_right (Nat.le_refl _),Nat.sub_self] at h1
   rw [List.getElem?_append_right (by omega),hll,Nat.sub_self] at h2
   simp at h1 h2
   subst h1 h2
   exact OneR.keep ⟨by_,tp,hby.le l1⟩ I1 K4 fun b k hb hc=>nm b k hb (.inr ⟨_,hc⟩)
 ·rcases List.mem_append.1 ho' with h | h
  ·exact H.fine o' h
  ·rw [List.mem_singleton.1 h]; exact hF
end Go.Ev
end
