import Derived.Test.YtaigdhieijndgaaGreatEQ6
section
namespace Go.Ev
variable {C:Ctx}
theorem bit_eq (m i:Nat):bit m i=m.testBit i:=by
 have h:Nat.land (Nat.shiftRight m i) 1=(m >>> i) &&& 1:=rfl
 rw [bit,h,Nat.and_one_is_mod,Nat.testBit_eq_decide_div_mod_eq,Nat.shiftRight_eq_div_pow]
 rw [Bool.eq_iff_iff]; simp
theorem bit_zero (i:Nat):bit 0 i=false:=by rw [bit_eq]; simp
theorem bit_lor (m k i:Nat):bit (Nat.lor m k) i=(bit m i || bit k i):=by
 rw [bit_eq,bit_eq,bit_eq]; exact Nat.testBit_or m k i
theorem bit_one (k i:Nat):bit (one k) i=decide (k=i):=by
 rw [bit_eq]
 have:one k=2 ^ k:=by simp [one,Nat.shiftLeft_eq]
 rw [this,Nat.testBit_two_pow]
theorem bit_all {k i:Nat} (h:i<k):bit (one k-1) i=true:=by
 rw [bit_eq]
 have:one k=2 ^ k:=by simp [one,Nat.shiftLeft_eq]
 rw [this,Nat.testBit_two_pow_sub_one]; simpa using h
theorem predMask_spec {i:Nat} {preds:List Nat}:∀ {es:List Edge} {m:Nat},predMask i preds es=some m →
  (∀ e∈es,Region.binds .any e=true→e.on<i)∧(∀ j,bit m j=true→∃ e∈es,Region.binds .any e=true∧(e.on=j∨bit (preds.getD e.on 0) j=true))
 | [],m,h=>by
  simp only [predMask] at h
  cases h
  exact ⟨by simp,fun j hj=>by rw [bit_zero] at hj; cases hj⟩
 | e::l,m,h=>by
  simp only [predMask] at h
  replace h:=of_bind h
  obtain ⟨m',h1,h⟩:=h
  obtain ⟨g1,g2⟩:=predMask_spec h1
  cases hb:Region.binds .any e with
  | false=>
   rw [hb] at h
   simp only [cond_false] at h
   cases h
   refine ⟨fun e' he hb'=>?_,fun j hj=>?_⟩
   ·rcases List.mem_cons.1 he with rfl | he
    ·rw [hb] at hb'; cases hb'
    ·exact g1 e' he hb'
   ·obtain ⟨e',q1,q2⟩:=g2 j hj
    exact ⟨e',List.mem_cons_of_mem _ q1,q2⟩
  | true=>
   rw [hb] at h
   simp only [cond_true] at h
   replace h:=of_cond_some h
   obtain ⟨hlt,h⟩:=h
   cases h
   have hlt:e.on<i:=by simpa using hlt
   refine ⟨fun e' he hb'=>?_,fun j hj=>?_⟩
   ·rcases List.mem_cons.1 he with rfl | he
    ·exact hlt
    ·exact g1 e' he hb'
   ·rw [bit_lor,bit_lor,bit_one] at hj
    rcases Bool.or_eq_true_iff.1 hj with hj | hj
    ·obtain ⟨e',q1,q2⟩:=g2 j hj
     exact ⟨e',List.mem_cons_of_mem _ q1,q2⟩
    ·refine ⟨e,by simp,hb,?_⟩
     rcases Bool.or_eq_true_iff.1 hj with hj | hj
     ·exact .inl (by simpa using hj)
     ·exact .inr hj
structure Preds (L:List Oper) (preds:List Nat):Prop where
 back:∀ i o,L[i]? = some o→∀ e∈o.after.toList,Region.binds .any e=true→e.on<i
 path:∀ i o,L[i]? = some o→∀ j,bit (preds.getD i 0) j=true→∃ e∈o.after.toList,Region.binds .any e=true∧(e.on=j∨bit (preds.getD e.on 0) j=true)
theorem predsOf_spec:∀ (l L0:List Oper) (i:Nat) (ps preds:List Nat),predsOf l i ps=some preds→L0.length=i→ps.length=i→Preds L0 ps→Preds (L0++l) preds∧preds.length=i+l.length∧ps <+: preds
 | [],L0,i,ps,preds,h,h0,hl,hp=>by
  simp only [predsOf] at h; cases h
  exact ⟨by simpa using hp,by simpa using hl,List.prefix_refl _⟩
 | o::l,L0,i,ps,preds,h,h0,hl,hp=>by
  simp only [predsOf] at h
  replace h:=of_bind h
  obtain ⟨m,hm,h⟩:=h
  obtain ⟨g1,g2⟩:=predMask_spec hm
  have hg:∀ j,j<i→(ps++[m]).getD j 0=ps.getD j 0:=by
   intro j hj
   simp only [List.getD_eq_getElem?_getD]
   rw [List.getElem?_append_left (by omega)]
  have hgi:(ps++[m]).getD i 0=m:=by
   simp only [List.getD_eq_getElem?_getD]
   rw [List.getElem?_append_right (by omega),hl]; simp
  have hp':Preds (L0++[o]) (ps++[m]):=by
   refine ⟨?_,?_⟩
   ·intro k o' hk
    by_cases hlt:k<i
    ·rw [List.getElem?_append_left (by omega)] at hk; exact hp.back k o' hk
    ·rw [List.getElem?_append_right (by omega)] at hk
     have hk0:k-L0.length=0:=by
      have:=(List.getElem?_eq_some_iff.1 hk).1; simpa using this
     rw [hk0] at hk; simp at hk; subst hk
     have:k=i:=by omega
     subst this
     exact g1
   ·intro k o' hk
    by_cases hlt:k<i
    ·rw [List.getElem?_append_left (by omega)] at hk
     intro j hj
     rw [hg k hlt] at hj
     obtain ⟨e,e1,e2,e3⟩:=hp.path k o' hk j hj
     have:=hp.back k o' hk e e1 e2
     exact ⟨e,e1,e2,by rw [hg _ (by omega)]; exact e3⟩
    ·rw [List.getElem?_append_right (by omega)] at hk
     have hk0:k-L0.length=0:=by
      have:=(List.getElem?_eq_some_iff.1 hk).1; simpa using this
     rw [hk0] at hk; simp at hk; subst hk
     have:k=i:=by omega
     subst this
     intro j hj
     rw [hgi] at hj
     obtain ⟨e,e1,e2,e3⟩:=g2 j hj
     exact ⟨e,e1,e2,by rw [hg _ (g1 e e1 e2)]; exact e3⟩
  obtain ⟨k1,k2,k3⟩:=predsOf_spec l (L0++[o]) (i+1) (ps++[m]) preds h (by simp [h0]) (by simp [hl]) hp'
  refine ⟨by simpa using k1,by simp at k2 ⊢; omega,(List.prefix_append ps [m]).trans k3⟩
theorem Preds.lt {L:List Oper} {preds:List Nat} (h:Preds L preds):∀ {i:Nat} {o:Oper},L[i]? = some o→∀ j,bit (preds.getD i 0) j=true→j<i:=by
 intro i
 induction i using Nat.strongRecOn with
 | _ i ih=>
  intro o ho j hj
  obtain ⟨e,e1,e2,e3⟩:=h.path i o ho j hj
  have hlt:=h.back i o ho e e1 e2
  rcases e3 with rfl | e3
  ·exact hlt
  ·have hl:e.on<L.length:=by have:=(List.getElem?_eq_some_iff.1 ho).1; omega
   have:=ih e.on hlt (o:=L[e.on]) (by simp [hl]) j e3
   omega
theorem actsOf_mem:∀ {l:List Oper} {i x:Nat},x∈actsOf C i l↔∃ q o,x=i+q∧l[q]? = some o∧kindOf C o=.act
 | [],i,x=>by simp [actsOf]
 | o::l,i,x=>by
  have ih:=fun i=>actsOf_mem (l:=l) (i:=i) (x:=x)
  have step:(∃ q o',x=i+q∧(o::l)[q]? = some o'∧kindOf C o'=.act)↔((x=i∧kindOf C o=.act)∨∃ q o',x=i+1+q∧l[q]? = some o'∧kindOf C o'=.act):=by
   constructor
   ·rintro ⟨q,o',rfl,h1,h2⟩
    cases q with
    | zero=>simp at h1; subst h1; exact .inl ⟨rfl,h2⟩
    | succ q=>exact .inr ⟨q,o',by omega,by simpa using h1,h2⟩
   ·rintro (⟨rfl,h⟩ | ⟨q,o',rfl,h1,h2⟩)
    ·exact ⟨0,o,rfl,by simp,h⟩
    ·exact ⟨q+1,o',by omega,by simpa using h1,h2⟩
  rw [step,← ih]
  simp only [actsOf]
  split
  ·rename_i hk; simp [hk]
  ·rename_i hk
   constructor
   ·exact .inr
   ·rintro (⟨_,h⟩ | h)
    ·exact absurd h hk
    ·exact h
theorem actsOf_sorted:∀ (l:List Oper) (i:Nat),(actsOf C i l).Pairwise (· < ·)∧∀ x∈actsOf C i l,i≤x
 | [],i=>by simp [actsOf]
 | o::l,i=>by
  obtain ⟨h1,h2⟩:=actsOf_sorted l (i+1)
  simp only [actsOf]
  split
  ·refine ⟨List.pairwise_cons.2 ⟨fun x hx=>by have:=h2 x hx; omega,h1⟩,?_⟩
   intro x hx
   rcases List.mem_cons.1 hx with rfl | hx
   ·exact Nat.le_refl _
   ·have:=h2 x hx; omega
  ·exact ⟨h1,fun x hx=>by have:=h2 x hx; omega⟩
theorem actsOk_spec {preds:List Nat}:∀ {l:List Nat},actsOk preds l=true→∀ t a b,l[t]? = some a→l[t+1]? = some b→bit (preds.getD b 0) a=true
 | [],_,t,a,b,h1,h2=>by simp at h1
 | [x],_,t,a,b,h1,h2=>by cases t <;> simp at h2
 | x::y::l,h,t,a,b,h1,h2=>by
  simp only [actsOk,Bool.and_eq_true] at h
  cases t with
  | zero=>simp at h1 h2; subst h1; subst h2; exact h.1
  | succ t=>exact actsOk_spec h.2 t a b (by simpa using h1) (by simpa using h2)
theorem countIn_le {m:Nat}:∀ {l:List Nat} {k:Nat},(∀ t x,l[t]? = some x→bit m x=true→t<k)→countIn m l≤k
 | [],k,_=>by simp [countIn]
 | x::l,k,h=>by
  simp only [countIn]
  have ih:=countIn_le (m:=m) (l:=l) (k:=k-1) (fun t y h1 h2=>by have:=h (t+1) y (by simpa using h1) h2; omega)
  cases hb:bit m x with
  | true=>simp only [cond_true]; have:=h 0 x (by simp) hb; omega
  | false=>simp only [cond_false]; omega
theorem le_countNotAhead {preds:List Nat} {i:Nat}:∀ {l:List Nat} {k:Nat},k≤l.length→(∀ t x,t<k→l[t]? = some x→bit (preds.getD x 0) i=false)→k≤countNotAhead preds i l
 | [],k,hk,_=>by simpa [countNotAhead] using hk
 | x::l,0,hk,h=>Nat.zero_le _
 | x::l,k+1,hk,h=>by
  simp only [countNotAhead]
  have ih:=le_countNotAhead (preds:=preds) (i:=i) (l:=l) (k:=k) (by simpa using hk) (fun t y h1 h2=>h (t+1) y (by omega) (by simpa using h2))
  rw [h 0 x (by omega) (by simp)]
  simp only [cond_false]; omega
theorem dstIs_iff {t:Tmp} {d:Option Tmp}:dstIs t d=true↔d=some t:=by
 cases d with
 | none=>simp [dstIs]
 | some d=>simp [dstIs]
theorem writer_some {t:Tmp}:∀ {l:List Oper} {i p:Nat},writer t l i=some p→∃ q o,p=i+q∧l[q]? = some o∧o.dst=some t
 | [],i,p,h=>by simp [writer] at h
 | o::l,i,p,h=>by
  simp only [writer] at h
  cases hd:dstIs t o.dst with
  | true=>rw [hd] at h; cases h; exact ⟨0,o,rfl,by simp,dstIs_iff.1 hd⟩
  | false=>
   rw [hd] at h
   obtain ⟨q,o',rfl,h1,h2⟩:=writer_some h
   exact ⟨q+1,o',by omega,by simpa using h1,h2⟩
theorem writer_none {t:Tmp}:∀ {l:List Oper} {i:Nat},writer t l i=none→∀ (q:Nat) (o:Oper),l[q]? = some o→o.dst≠some t
 | [],i,h,q,o,hq=>by simp at hq
 | o::l,i,h,q,o',hq=>by
  simp only [writer] at h
  cases hd:dstIs t o.dst with
  | true=>rw [hd] at h; cases h
  | false=>
   rw [hd] at h
   cases q with
   | zero=>
    simp at hq; subst hq
    intro e; rw [dstIs_iff.2 e] at hd; cases hd
   | succ q=>exact writer_none h q o' (by simpa using hq)
theorem onceOk_spec:∀ {l:List Oper},onceOk l=true→∀ (p q:Nat) (o o':Oper) (t:Tmp),l[p]? = some o→l[q]? = some o'→o.dst=some t→o'.dst=some t→p=q
 | [],_,p,q,o,o',t,h1,_,_,_=>by simp at h1
 | x::l,h,p,q,o,o',t,h1,h2,h3,h4=>by
  simp only [onceOk,Bool.and_eq_true] at h
  obtain ⟨ha,hb⟩:=h
  have hno:∀ (k:Nat) (y:Oper),x.dst=some t→l[k]? = some y→y.dst≠some t:=by
   intro k y hx hk
   rw [hx] at ha
   simp only [Option.isNone_iff_eq_none] at ha
   exact writer_none ha k y hk
  cases p with
  | zero=>
   simp at h1; subst h1
   cases q with
   | zero=>rfl
   | succ q=>exact absurd h4 (hno q o' h3 (by simpa using h2))
  | succ p=>
   cases q with
   | zero=>
    simp at h2; subst h2
    exact absurd h3 (hno p o h4 (by simpa using h1))
   | succ q=>rw [onceOk_spec hb p q o o' t (by simpa using h1) (by simpa using h2) h3 h4]
theorem writer_of {L:List Oper} (ho:onceOk L=true) {p:Nat} {o:Oper} {t:Tmp} (hp:L[p]? = some o) (hd:o.dst=some t):writer t L 0=some p:=by
 cases hw:writer t L 0 with
 | none=>exact absurd hd (writer_none hw p o hp)
 | some p'=>
  obtain ⟨q,o',rfl,h1,h2⟩:=writer_some hw
  rw [onceOk_spec ho p q o o' t hp h1 hd h2,Nat.zero_add]
theorem readOk_spec {L:List Oper} {preds:List Nat} {i:Nat}:∀ {ts:List Tmp},readOk L preds i ts=true→∀ t∈ts,∀ p,writer t L 0=some p →
  (p<i→bit (preds.getD i 0) p=true)∧(i<p→bit (preds.getD p 0) i=true)
 | [],_,t,ht,_,_=>by simp at ht
 | x::ts,h,t,ht,p,hp=>by
  simp only [readOk,Bool.and_eq_true] at h
  rcases List.mem_cons.1 ht with rfl | ht
  ·have h:=h.1
   rw [hp] at h
   simp only at h
   constructor
   ·intro hlt
    rw [show Nat.blt p i=true from by simpa using hlt] at h; exact h
   ·intro hlt
    rw [show Nat.blt p i=false from by simp; omega,show Nat.blt i p=true from by simpa using hlt] at h; exact h
  ·exact readOk_spec h.2 t ht p hp
theorem allReadsOk_spec {L:List Oper} {preds:List Nat}:∀ {l:List Oper} {i:Nat},allReadsOk L preds i l=true→∀ q o,l[q]? = some o →
  readOk L preds (i+q) (guardTmps L o++opTmps o.op.operands.toList)=true
 | [],i,_,q,o,hq=>by simp at hq
 | x::l,i,h,q,o,hq=>by
  simp only [allReadsOk,Bool.and_eq_true] at h
  cases q with
  | zero=>simp at hq; subst hq; exact h.1
  | succ q=>
   have:=allReadsOk_spec h.2 q o (by simpa using hq)
   rw [show i+(q+1)=i+1+q from by omega]; exact this
theorem opTmps_mem {t:Tmp}:∀ {l:List Operand},.tmp t∈l→t∈opTmps l
 | [],h=>by simp at h
 | x::l,h=>by
  rcases List.mem_cons.1 h with rfl | h
  ·simp [opTmps]
  ·have:=opTmps_mem h
   cases x <;> simp [opTmps,this]
structure PlanOk (C:Ctx) (L:List Oper) (p:Plan):Prop where
 preds:Preds L p.preds
 acts:p.acts=actsOf C 0 L
 once:onceOk L=true
 reads:∀ i o,L[i]? = some o→∀ t,t∈guardTmps L o++opTmps o.op.operands.toList→∀ q,writer t L 0=some q →
  (q<i→bit (p.preds.getD i 0) q=true)∧(i<q→bit (p.preds.getD q 0) i=true)
 chain:∀ t a b,p.acts[t]? = some a→p.acts[t+1]? = some b→bit (p.preds.getD b 0) a=true
theorem planOf_spec {L:List Oper} {p:Plan} (h:planOf C L=some p):PlanOk C L p:=by
 unfold planOf at h
 replace h:=of_bind h
 obtain ⟨preds,h1,h⟩:=h
 replace h:=of_cond_some h
 obtain ⟨h2,h⟩:=h
 cases h
 simp only [Bool.and_eq_true] at h2
 obtain ⟨g1,g2,g3⟩:=h2
 obtain ⟨k1,k2,_⟩:=predsOf_spec L [] 0 [] preds h1 rfl rfl ⟨by simp,by simp⟩
 refine ⟨by simpa using k1,rfl,g1,?_,actsOk_spec g3⟩
 intro i o ho t ht q hq
 have:=allReadsOk_spec g2 i o ho
 rw [Nat.zero_add] at this
 exact readOk_spec this t ht q hq
def mO (M:List Made) (j:Nat):Option O:=(M.find? fun m=>Nat.beq m.i j).map (·.o)
def ovr (mask J:Nat) (M:List Made) (n0 b:Nat):Option O:=bif Nat.ble n0 b && (bit mask (b-n0) && !bit J (b-n0)) then mO M (b-n0) else none
theorem withMade_get {mask J n0:Nat} {h:Heap}:∀ {M:List Made},(∀ m∈M,m.id=n0+m.i)→∀ b,(withMade mask J M h).get b=(ovr mask J M n0 b).or (h.get b)
 | [],_,b=>by simp [withMade,ovr,mO]
 | m::M,hM,b=>by
  have ih:=withMade_get (mask:=mask) (J:=J) (h:=h) (M:=M) (fun x hx=>hM x (by simp [hx])) b
  have hid:=hM m (by simp)
  have hmO:mO (m::M) (b-n0)=if m.i=b-n0 then some m.o else mO M (b-n0):=by
   by_cases e:m.i=b-n0
   ·rw [if_pos e]; simp [mO,e]
   ·rw [if_neg e]
    have:Nat.beq m.i (b-n0)=false:=by simpa using e
    simp [mO,this]
  simp only [withMade]
  cases hc:bit mask m.i && !bit J m.i with
  | true=>
   simp only [cond_true]
   rw [Tree.get_set]
   by_cases e:b=m.id
   ·rw [if_pos e]
    have e2:m.i=b-n0:=by omega
    have:Nat.ble n0 b=true:=by simp; omega
    simp [ovr,this,← e2,hc,mO]
   ·rw [if_neg e,ih]
    by_cases hb:n0≤b
    ·have e2:m.i≠b-n0:=by omega
     rw [show ovr mask J (m::M) n0 b=ovr mask J M n0 b from by simp only [ovr,hmO,if_neg e2]]
    ·have:Nat.ble n0 b=false:=by simp; omega
     simp [ovr,this]
  | false=>
   simp only [cond_false]
   rw [ih]
   by_cases e2:m.i=b-n0
   ·have:∀ M',ovr mask J M' n0 b=none:=by
     intro M'
     simp only [ovr,← e2,hc,Bool.and_false,cond_false]
    rw [this,this]
   ·rw [show ovr mask J (m::M) n0 b=ovr mask J M n0 b from by simp only [ovr,hmO,if_neg e2]]
theorem withMade_append {mask J:Nat} {h:Heap} {M:List Made}:∀ {N:List Made},(∀ m∈N,bit mask m.i=false)→withMade mask J (N++M) h=withMade mask J M h
 | [],_=>rfl
 | m::N,hN=>by
  simp only [List.cons_append,withMade]
  rw [hN m (by simp)]
  simp only [Bool.false_and,cond_false]
  exact withMade_append fun x hx=>hN x (by simp [hx])
theorem joinMade_append {mask J:Nat} {M:List Made}:∀ {N:List Made},(∀ m∈N,bit mask m.i=false)→joinMade mask (N++M) J=joinMade mask M J
 | [],_=>rfl
 | m::N,hN=>by
  simp only [List.cons_append,joinMade]
  rw [hN m (by simp)]
  simp only [cond_false]
  exact joinMade_append fun x hx=>hN x (by simp [hx])
theorem joinMade_bit {mask J j:Nat}:∀ {M:List Made},bit (joinMade mask M J) j=(bit J j || (bit mask j && (mO M j).isSome))
 | []=>by simp [joinMade,mO]
 | m::M=>by
  have ih:=joinMade_bit (mask:=mask) (J:=J) (j:=j) (M:=M)
  simp only [joinMade]
  by_cases e:m.i=j
  ·subst e
   have:mO (m::M) m.i=some m.o:=by simp [mO]
   rw [this]
   cases hb:bit mask m.i with
   | true=>simp only [cond_true]; rw [bit_lor,bit_one]; simp
   | false=>simp only [cond_false]; rw [ih,hb]; simp
  ·have hne:Nat.beq m.i j=false:=by simpa using e
   have:mO (m::M) j=mO M j:=by simp [mO,hne]
   rw [this]
   cases hb:bit mask m.i with
   | true=>simp only [cond_true]; rw [bit_lor,bit_one,ih]; simp [e]
   | false=>simp only [cond_false]; rw [ih]
end Go.Ev
end
section
namespace Go.Ev
variable {C:Ctx}
inductive OpFact (C:Ctx) (p:Plan) (L:List Oper) (n0:Nat) (M:List Made) (G:List Stage) (R:List Rd) (j t:Nat) (o:Oper) (tm:Tm) (v:V):Prop
 | skip (hw:wantedT L tm o=false) (hv:v=undefV) (hm:mO M j=none) (hk:kindOf C o≠.act∨∃ st,G[t]? = some st∧G[t+1]? = some st)
 | quiet (hw:wantedT L tm o=true) (hk:kindOf C o≠.act) (hr:∃ v0,rd C (evalT C tm) o .leaf=some v0∧∀ (ρ:Ren) (y:Value),VRel ρ v0 y→VRel ρ v y) (hm:mO M j=none)
 | read (hw:wantedT L tm o=true) (hk:kindOf C o≠.act) (hr:Rd.mk j o tm v∈R) (hm:mO M j=none)
 | make (hw:wantedT L tm o=true) (hk:kindOf C o≠.act) (mm:O×Mk) (h:mk C (evalT C tm) o=some mm) (hv:v=mm.2.val (n0+j)) (hm:mO M j=some mm.1)
 | act (hw:wantedT L tm o=true) (hk:kindOf C o=.act) (st st':Stage) (h1:G[t]? = some st) (h2:G[t+1]? = some st')
   (hs:ActSound C o tm (withMade (p.preds.getD j 0) st.joined M st.h) st.n v st'.h st'.n) (hj:st'.joined=joinMade (p.preds.getD j 0) M st.joined) (hm:mO M j=none)
inductive Chain (C:Ctx) (p:Plan) (L:List Oper) (n0:Nat) (M:List Made) (G:List Stage) (R:List Rd):List Oper→Nat→Nat→Tm→Tm→Prop
 | nil (i t:Nat) (tm:Tm):Chain C p L n0 M G R [] i t tm tm
 | cons {o:Oper} {rest:List Oper} {i t:Nat} {tm tm1 tm2:Tm} {v:V} (h:OpFact C p L n0 M G R i t o tm v) (hp:tm.put o.dst v=some tm1)
   (hs:Chain C p L n0 M G R rest (i+1) (match kindOf C o with | .act=>t+1 | _=>t) tm1 tm2):Chain C p L n0 M G R (o::rest) i t tm tm2
theorem mO_none {j:Nat}:∀ {M:List Made},(∀ m∈M,m.i≠j)→mO M j=none
 | [],_=>rfl
 | m::M,h=>by
  have hne:Nat.beq m.i j=false:=by simpa using h m (by simp)
  have:=mO_none (j:=j) (M:=M) fun x hx=>h x (by simp [hx])
  unfold mO at this ⊢
  rw [List.find?_cons,hne]; exact this
theorem mO_append {j:Nat} {M:List Made}:∀ {N:List Made},(∀ m∈N,m.i≠j)→mO (N++M) j=mO M j
 | [],_=>rfl
 | m::N,h=>by
  have hne:Nat.beq m.i j=false:=by simpa using h m (by simp)
  have:=mO_append (j:=j) (M:=M) (N:=N) fun x hx=>h x (by simp [hx])
  unfold mO at this ⊢
  rw [List.cons_append,List.find?_cons,hne]; exact this
theorem mO_lt {M:List Made} {n j:Nat} (h:∀ m∈M,m.i<n) {o:O} (hj:mO M j=some o):j<n:=by
 unfold mO at hj
 obtain ⟨m,h1,_⟩:=Option.map_eq_some_iff.1 hj
 have:=List.find?_some h1
 have e:m.i=j:=by simpa using this
 rw [← e]; exact h m (List.mem_of_find?_eq_some h1)
theorem rev_get {α:Type} (ls tail:List α) (x:α):(ls++x::tail).reverse[tail.length]? = some x:=by simp
theorem rev_get2 {α:Type} (ls tail:List α) (x y:α):(ls++y::x::tail).reverse[tail.length]? = some x∧(ls++y::x::tail).reverse[tail.length+1]? = some y:=by
 constructor <;> simp
theorem topStage_some {l:List Stage} {t:Stage} (h:topStage l=some t):∃ tail,l=t::tail:=by
 cases l with
 | nil=>simp [topStage] at h
 | cons x tail=>simp [topStage] at h; subst h; exact ⟨tail,rfl⟩
theorem draw_facts {L:List Oper} {p:Plan} (hp:PlanOk C L p) {n0:Nat}:∀ (k:Nat),(∀ k' < k,∀ o tm h n r,actR C k' o tm h n=some r→ActSound C o tm h n r.1 r.2.1 r.2.2) →
  ∀ (l L0:List Oper) (i t:Nat) (d d':DS),L=L0++l→L0.length=i→drawR C k p L l i n0 d=some d'→(∀ m∈d.made,m.i<i)→d.stages.length=t+1 →
  ∃ lm ls lr,d'.made=lm++d.made∧d'.stages=ls++d.stages∧d'.rds=lr++d.rds∧(∀ m∈lm,i≤m.i∧m.i<L.length∧m.id=n0+m.i)∧ls.length=(actsOf C i l).length ∧
   Chain C p L n0 d'.made d'.stages.reverse d'.rds l i t d.tm d'.tm:=by
 intro k
 induction k with
 | zero=>intro _ l L0 i t d d' _ _ h; simp [drawR] at h
 | succ k ih=>
  intro hact l L0 i t d d' hL h0 h hmade hst
  have ih:=ih (fun k' hk=>hact k' (by omega))
  cases l with
  | nil=>
   simp only [drawR] at h
   cases h
   exact ⟨[],[],[],rfl,rfl,rfl,by simp,rfl,.nil _ _ _⟩
  | cons o rest=>
   have hLi:L[i]? = some o:=by rw [hL,List.getElem?_append_right (by omega),h0]; simp
   have hlen:i<L.length:=(List.getElem?_eq_some_iff.1 hLi).1
   have hL':L=(L0++[o])++rest:=by rw [hL]; simp
   have h0':(L0++[o]).length=i+1:=by simp [h0]
   have plain:∀ (tm:Tm) (v:V) (rds:List Rd),d.tm.put o.dst v=some tm→kindOf C o≠.act→(∃ x,rds=x++d.rds) →
     drawR C k p L rest (i+1) n0 { d with tm,rds }=some d' →
     (∀ M,(∀ m∈M,m.i≠i→True)→mO M i=none→OpFact C p L n0 d'.made d'.stages.reverse d'.rds i t o d.tm v∨M≠d'.made) →
     ∃ lm ls lr,d'.made=lm++d.made∧d'.stages=ls++d.stages∧d'.rds=lr++d.rds∧(∀ m∈lm,i≤m.i∧m.i<L.length∧m.id=n0+m.i)∧ls.length=(actsOf C i (o::rest)).length ∧
      Chain C p L n0 d'.made d'.stages.reverse d'.rds (o::rest) i t d.tm d'.tm:=by
    intro tm v rds hput hk hx hrest hfact
    obtain ⟨x,rfl⟩:=hx
    obtain ⟨lm,ls,lr,g1,g2,g3,g4,g5,g6⟩:=ih rest (L0++[o]) (i+1) t _ d' hL' h0' hrest (fun m hm=>by have:=hmade m hm; omega) hst
    have hno:mO d'.made i=none:=by
     rw [g1]
     refine mO_none fun m hm=>?_
     rcases List.mem_append.1 hm with hm | hm
     ·have:=(g4 m hm).1; omega
     ·have:=hmade m hm; omega
    have hf:OpFact C p L n0 d'.made d'.stages.reverse d'.rds i t o d.tm v:=(hfact d'.made (fun _ _ _=>trivial) hno).resolve_right (by simp)
    refine ⟨lm,ls,lr++x,g1,g2,by simpa using g3,fun m hm=>⟨by have:=(g4 m hm).1; omega,(g4 m hm).2⟩,?_,.cons hf hput ?_⟩
    ·rw [g5]; simp only [actsOf]
    ·split
     ·rename_i hk'; exact absurd hk' hk
     ·exact g6
   simp only [drawR] at h
   cases hw:wantedT L d.tm o with
   | false=>
    rw [hw] at h
    simp only [cond_false] at h
    split at h
    ·rename_i hk
     replace h:=of_bind h
     obtain ⟨st,hs,h⟩:=h
     replace h:=of_bind h
     obtain ⟨tm,hput,h⟩:=h
     obtain ⟨tail,htail⟩:=topStage_some hs
     have ht:tail.length=t:=by rw [htail] at hst; simpa using hst
     obtain ⟨lm,ls,lr,g1,g2,g3,g4,g5,g6⟩:=ih rest (L0++[o]) (i+1) (t+1) _ d' hL' h0' h (fun m hm=>by have:=hmade m hm; omega) (by simp [hst])
     have hno:mO d'.made i=none:=by
      rw [g1]
      refine mO_none fun m hm=>?_
      rcases List.mem_append.1 hm with hm | hm
      ·have:=(g4 m hm).1; omega
      ·have:=hmade m hm; omega
     simp only [htail] at g2
     have hG:=rev_get2 ls tail st st
     rw [← g2,ht] at hG
     refine ⟨lm,ls++[st],lr,g1,by rw [g2,htail]; simp,g3,fun m hm=>⟨by have:=(g4 m hm).1; omega,(g4 m hm).2⟩,?_,.cons (.skip hw rfl hno (.inr ⟨st,hG.1,hG.2⟩)) hput ?_⟩
     ·simp only [actsOf,hk]; simp [g5]
     ·rw [hk]; exact g6
    ·rename_i hk
     replace h:=of_bind h
     obtain ⟨tm,hput,h⟩:=h
     exact plain tm _ d.rds hput (by intro e; exact hk e) ⟨[],rfl⟩ h fun M _ hM=>by
      by_cases e:M=d'.made
      ·subst e; exact .inl (.skip hw rfl hM (.inl (by intro e; exact hk e)))
      ·exact .inr e
   | true=>
    rw [hw] at h
    simp only [cond_true] at h
    split at h
    ·rename_i hk
     replace h:=of_bind h
     obtain ⟨v,hv,h⟩:=h
     replace h:=of_bind h
     obtain ⟨tm,hput,h⟩:=h
     exact plain tm _ d.rds hput (by rw [hk]; simp) ⟨[],rfl⟩ h fun M _ hM=>by
      by_cases e:M=d'.made
      ·subst e; exact .inl (.quiet hw (by rw [hk]; simp) ⟨_,hv,fun _ _ h=>h⟩ hM)
      ·exact .inr e
    ·rename_i hk
     replace h:=of_bind h
     obtain ⟨st,hs,h⟩:=h
     replace h:=of_bind h
     obtain ⟨v,hv,h⟩:=h
     replace h:=of_bind h
     obtain ⟨tm,hput,h⟩:=h
     have hmem:∀ (lr:List Rd),d'.rds=lr++({ i,o,tm:=d.tm,v }::d.rds)→Rd.mk i o d.tm v∈d'.rds:=by
      intro lr e; rw [e]; simp
     obtain ⟨_,_,lr,_,_,g3,_⟩:=ih rest (L0++[o]) (i+1) t _ d' hL' h0' h (fun m hm=>by have:=hmade m hm; omega) hst
     exact plain tm _ ({ i,o,tm:=d.tm,v }::d.rds) hput (by rw [hk]; simp) ⟨[_],rfl⟩ h fun M _ hM=>by
      by_cases e:M=d'.made
      ·subst e; exact .inl (.read hw (by rw [hk]; simp) (hmem lr g3) hM)
      ·exact .inr e
    ·rename_i hk
     replace h:=of_bind h
     obtain ⟨mm,hmm,h⟩:=h
     replace h:=of_bind h
     obtain ⟨tm,hput,h⟩:=h
     obtain ⟨lm,ls,lr,g1,g2,g3,g4,g5,g6⟩:=ih rest (L0++[o]) (i+1) t _ d' hL' h0' h (fun m hm=>by
      rcases List.mem_cons.1 hm with rfl | hm
      ·exact Nat.lt_succ_self _
      ·have:=hmade m hm; omega) hst
     have hyes:mO d'.made i=some mm.1:=by
      rw [g1,mO_append fun m hm=>by have:=(g4 m hm).1; omega]
      simp [mO]
     refine ⟨lm++[⟨i,n0+i,mm.1⟩],ls,lr,by rw [g1]; simp,g2,g3,?_,?_,.cons (.make hw (by rw [hk]; simp) mm hmm rfl hyes) hput ?_⟩
     ·intro m hm
      rcases List.mem_append.1 hm with hm | hm
      ·exact ⟨by have:=(g4 m hm).1; omega,(g4 m hm).2⟩
      ·simp at hm; subst hm; exact ⟨Nat.le_refl _,hlen,rfl⟩
     ·simp only [actsOf,hk]; exact g5
     ·rw [hk]; exact g6
    ·rename_i hk
     replace h:=of_bind h
     obtain ⟨st,hs,h⟩:=h
     replace h:=of_bind h
     obtain ⟨r,hr,h⟩:=h
     replace h:=of_bind h
     obtain ⟨tm,hput,h⟩:=h
     obtain ⟨tail,htail⟩:=topStage_some hs
     have ht:tail.length=t:=by rw [htail] at hst; simpa using hst
     obtain ⟨lm,ls,lr,g1,g2,g3,g4,g5,g6⟩:=ih rest (L0++[o]) (i+1) (t+1) _ d' hL' h0' h (fun m hm=>by have:=hmade m hm; omega) (by simp [hst])
     have hno:mO d'.made i=none:=by
      rw [g1]
      refine mO_none fun m hm=>?_
      rcases List.mem_append.1 hm with hm | hm
      ·have:=(g4 m hm).1; omega
      ·have:=hmade m hm; omega
     have hbit:∀ m∈lm,bit (p.preds.getD i 0) m.i=false:=by
      intro m hm
      cases hb:bit (p.preds.getD i 0) m.i with
      | false=>rfl
      | true=>have:=hp.preds.lt hLi _ hb; have:=(g4 m hm).1; omega
     simp only [htail] at g2
     have hG:=rev_get2 ls tail st { h:=r.2.1,joined:=joinMade (p.preds.getD i 0) d.made st.joined,n:=r.2.2 }
     rw [← g2,ht] at hG
     have hs:=hact k (by omega) _ _ _ _ _ hr
     refine ⟨lm,ls++[{ h:=r.2.1,joined:=joinMade (p.preds.getD i 0) d.made st.joined,n:=r.2.2 }],lr,g1,by rw [g2,htail]; simp,g3,fun m hm=>⟨by have:=(g4 m hm).1; omega,(g4 m hm).2⟩,?_,.cons (.act hw hk st _ hG.1 hG.2 (v:=r.1) ?_ ?_ hno) hput ?_⟩
     ·simp only [actsOf,hk]; simp [g5]
     ·rw [g1,withMade_append hbit]; exact hs
     ·rw [g1,joinMade_append hbit]
     ·rw [hk]; exact g6
theorem Chain.funs {p:Plan} {L:List Oper} {n0:Nat} {M:List Made} {G:List Stage} {R:List Rd} {l:List Oper} {i t:Nat} {tm tm':Tm} (h:Chain C p L n0 M G R l i t tm tm') :
  ∃ (tmA:Nat→Tm) (vA:Nat→V),tmA 0=tm∧tmA l.length=tm'∧∀ q o,l[q]? = some o→(tmA q).put o.dst (vA q)=some (tmA (q+1)) ∧
   ∃ t',(kindOf C o=.act→t≤t'∧(actsOf C i l)[t' - t]? = some (i+q))∧OpFact C p L n0 M G R (i+q) t' o (tmA q) (vA q):=by
 induction h with
 | nil i t tm=>exact ⟨fun _=>tm,fun _=>undefV,rfl,rfl,fun q o h=>by simp at h⟩
 | @cons o rest i t tm tm1 tm2 v hf hp hs ih=>
  obtain ⟨tmA,vA,h1,h2,h3⟩:=ih
  refine ⟨fun q=>match q with | 0=>tm | q+1=>tmA q,fun q=>match q with | 0=>v | q+1=>vA q,rfl,by simpa using h2,?_⟩
  intro q o' hq
  cases q with
  | zero=>
   simp at hq; subst hq
   refine ⟨by simpa [h1] using hp,t,fun hk=>⟨Nat.le_refl _,?_⟩,hf⟩
   simp [actsOf,hk]
  | succ q=>
   obtain ⟨k1,t',k2,k3⟩:=h3 q o' (by simpa using hq)
   refine ⟨k1,t',fun hk=>?_,by rw [show i+(q+1)=i+1+q from by omega]; exact k3⟩
   obtain ⟨m1,m2⟩:=k2 hk
   simp only [actsOf]
   split at m1
   ·rename_i hk'
    rw [hk'] at m2
    simp only at m2
    refine ⟨by omega,?_⟩
    simp only [hk']
    rw [show t' - t=t' - (t+1)+1 from by omega,List.getElem?_cons_succ,m2]
    congr 1; omega
   ·rename_i hk'
    have:(match kindOf C o with | .act=>t+1 | _=>t)=t:=by split <;> simp_all
    refine ⟨m1,?_⟩
    split at m2 <;> first | exact absurd ‹_› hk' | skip
    split
    ·exact absurd ‹_› hk'
    ·rw [m2]; congr 1; omega
theorem readAll_spec {M:List Made} {pred lo hi:Nat} {r:Rd}:∀ {l:List Stage} {K:Nat},readAll C M pred lo hi r K l=true→∀ pos st,l[pos]? = some st→pos≤K→lo≤K-pos→K-pos≤hi →
  ∃ v,rd C (evalT C r.tm) r.o (withMade pred st.joined M st.h)=some v∧same v r.v=true
 | [],_,_,pos,st,h,_,_,_=>by simp at h
 | s::l,K,h,pos,st,hp,hK,h1,h2=>by
  simp only [readAll,Bool.and_eq_true] at h
  cases pos with
  | zero=>
   simp at hp; subst hp
   have h:=h.1
   have c1:Nat.ble lo K=true:=by simpa using h1
   have c2:Nat.ble K hi=true:=by simpa using h2
   rw [c1,c2] at h
   simp only [Bool.and_self,cond_true] at h
   split at h
   ·rename_i v hv; exact ⟨v,hv,h⟩
   ·cases h
  | succ pos=>
   exact readAll_spec h.2 pos st (by simpa using hp) (by omega) (by omega) (by omega)
theorem checkReads_spec {p:Plan} {M:List Made} {S:List Stage}:∀ {R:List Rd},checkReads C p M S R=true→∀ r∈R,∀ k st,S.reverse[k]? = some st →
  countIn (p.preds.getD r.i 0) p.acts≤k→k≤countNotAhead p.preds r.i p.acts→∃ v,rd C (evalT C r.tm) r.o (withMade (p.preds.getD r.i 0) st.joined M st.h)=some v∧same v r.v=true
 | [],_,r,hr,_,_,_,_,_=>by simp at hr
 | x::R,h,r,hr,k,st,hk,h1,h2=>by
  simp only [checkReads,Bool.and_eq_true] at h
  rcases List.mem_cons.1 hr with rfl | hr
  ·have hlt:k<S.length:=by have:=(List.getElem?_eq_some_iff.1 hk).1; simpa using this
   rw [List.getElem?_reverse hlt] at hk
   refine readAll_spec h.1 _ st hk (by omega) ?_ ?_ <;> omega
  ·exact checkReads_spec h.2 r hr k st hk h1 h2
end Go.Ev
end
section
namespace Go.Ev
variable {C:Ctx}
theorem okB_ok {α:Type}:∀ {r:Rope α},r.okB=true→r.Ok
 | .nil,_=>trivial
 | .one _,_=>trivial
 | .lst _,_=>trivial
 | .cat n a b,h=>by
  simp only [Rope.okB,Bool.and_eq_true] at h
  exact ⟨by simpa using h.1,okB_ok h.2.1,okB_ok h.2.2⟩
theorem sameS_eq {a b:Value} (h:sameS a b=true):a=b:=by
 unfold sameS at h
 split at h <;> (try simp only [Bool.and_eq_true,kindEq_iff,intEq_eq,beq_iff_eq,bytes_beq] at h) <;> first
  | rfl
  | (obtain ⟨rfl,rfl⟩:=h; rfl)
  | (subst h; rfl)
  | (simp at h; subst h; rfl)
  | (simp at h; obtain ⟨rfl,rfl⟩:=h; rfl)
  | (exact absurd h (by simp))
theorem same1_eq {a b:V} (h:same1 a b=true):a=b:=by
 unfold same1 at h
 split at h <;> (try simp only [Bool.and_eq_true,beq_iff_eq] at h) <;> first
  | (rw [sameS_eq h]; done)
  | (obtain ⟨h1,h2,h3,h4,h5⟩:=h; simp at h1 h2 h3 h4; subst h1; subst h2; subst h3; subst h4; subst h5; rfl)
  | (obtain ⟨h1,h2,h3⟩:=h; simp at h1 h2 h3; subst h1; subst h2; subst h3; rfl)
  | (obtain ⟨h1,h2⟩:=h; simp at h1 h2; subst h1; subst h2; rfl)
  | (simp at h; subst h; rfl)
  | (exact absurd h (by simp))
theorem sameL_eq:∀ {a b:List V},sameL a b=true→a=b
 | [],[],_=>rfl
 | a::l,b::m,h=>by
  simp only [sameL,Bool.and_eq_true] at h
  rw [same1_eq h.1,sameL_eq h.2]
 | [],_::_,h=>by simp [sameL] at h
 | _::_,[],h=>by simp [sameL] at h
theorem same_rel {ρ:Ren} {v u:V} {y:Value} (h:same v u=true) (hv:VRel ρ v y):VRel ρ u y:=by
 unfold same at h
 split at h
 ·rename_i a b
  simp only [Bool.and_eq_true] at h
  have e:=sameL_eq h.2
  cases hv with | agg hok h1 hc=>exact .agg (okB_ok h.1) (by rw [← e]; exact h1) hc
 ·rw [← sameL_eq h]; exact hv
 ·rw [← same1_eq h]; exact hv
theorem HRel.congr {ρ:Ren} {h h2:Heap} {w:World} (H:HRel ρ h w) (e:∀ b,h2.get b=h.get b):HRel ρ h2 w:=H.weaken fun b o hb=>by rw [← e]; exact hb
theorem Evo.congr {ρ ρ':Ren} {h h1 h2:Heap} {n n':Nat} {w w':World} (a:Evo ρ h n w ρ' h1 n' w') (e:∀ b,h2.get b=h1.get b):Evo ρ h n w ρ' h2 n' w':=
 ⟨a.le,a.new,a.num,a.hrel.congr e,a.size,a.frame,fun b o x hb hr=>a.dom b o x (by rw [← e]; exact hb) hr,fun b o hb ho=>a.ros b o (by rw [← e]; exact hb) ho,a.side⟩
theorem Evo.trans' {ρ0 ρ1 ρ2:Ren} {h0 h1 h2:Heap} {n0 n1 m m':Nat} {w0 w1 w2:World} (a:Evo ρ0 h0 n0 w0 ρ1 h1 n1 w1) (b:Evo ρ1 h1 m w1 ρ2 h2 m' w2) (hm:n0≤m) (hm':m'≤n1) :
  Evo ρ0 h0 n0 w0 ρ2 h2 n1 w2:=by
 have b':Evo ρ1 h1 n1 w1 ρ2 h2 n1 w2→Evo ρ0 h0 n0 w0 ρ2 h2 n1 w2:=fun b'=>a.trans b'
 refine ⟨Ren.le_trans a.le b.le,?_,a.num,b.hrel,Nat.le_trans a.size b.size,?_,?_,fun k o hk ho=>a.ros k o (b.ros k o hk ho) ho,a.side.trans b.side⟩
 ·intro k x h2 h0
  cases h1:ρ1 k with
  | none=>have:=b.new k x h2 h1; omega
  | some y=>exact a.new k y h1 h0
 ·intro c hc hno
  rw [b.frame c (by have:=a.size; omega) ?_,a.frame c hc hno]
  intro k o x hk ho hr e
  rcases a.dom k o x hk ho hr with ⟨b0,o0,x0,g1,g0,g2,g3⟩ | hge
  ·exact hno b0 o0 x0 g1 g0 g2 (by rw [g3,e])
  ·omega
 ·intro k o x hk ho hr
  rcases b.dom k o x hk ho hr with ⟨b1,o1,x1,g1,g0,g2,g3⟩ | hge
  ·rcases a.dom b1 o1 x1 g1 g0 g2 with ⟨b0,o0,x0,k1,k0,k2,k3⟩ | hge
   ·exact .inl ⟨b0,o0,x0,k1,k0,k2,k3.trans g3⟩
   ·right; omega
  ·right; have:=a.size; omega
theorem Evo.widen {ρ ρ':Ren} {h1 h1' h2 h2':Heap} {n n':Nat} {w w':World} (e:Evo ρ h1 n w ρ' h1' n' w') (H:HRel ρ h2 w) (hsub:∀ b o,h1.get b=some o→h2.get b=some o)
  (hout:∀ b o,h2'.get b=some o→h1'.get b=some o∨(h2.get b=some o∧h1.get b=none)):Evo ρ h2 n w ρ' h2' n' w':=by
 have far:∀ b o x,h2.get b=some o→h1.get b=none→ρ b=some x→∀ b0 o0 x0,h1.get b0=some o0→(o0.own=true∨o.own=true)→ρ b0=some x0→x0.1≠x.1:=by
  intro b o x hb hn hr b0 o0 x0 hb0 ho hr0 e1
  have:b0=b:=by
   rcases ho with ho | ho
   ·exact H.inj b0 b o0 o x0 x (hsub _ _ hb0) hb ho hr0 hr e1
   ·exact (H.inj b b0 o o0 x x0 hb (hsub _ _ hb0) ho hr hr0 e1.symm).symm
  subst this
  rw [hb0] at hn; cases hn
 refine ⟨e.le,e.new,e.num,⟨?_,?_⟩,e.size,?_,?_,?_,e.side⟩
 ·intro b o hb
  rcases hout b o hb with hb | ⟨hb,hn⟩
  ·exact e.hrel.obj b o hb
  ·obtain ⟨c,sh,ex,x,g1,g2,g3⟩:=H.obj b o hb
   refine ⟨c,sh,ex,x,e.le _ _ g1,?_,g3.mono e.le⟩
   rw [e.frame c (Array.getElem?_eq_some_iff.1 g2).1 (fun b0 o0 x0 k1 k0 k2=>far b o _ hb hn g1 b0 o0 x0 k1 (.inl k0) k2)]
   exact g2
 ·have cross:∀ b b' o o' x x',h1'.get b=some o→h2.get b'=some o'→h1.get b'=none→(o.own=true∨o'.own=true)→ρ' b=some x→ρ' b'=some x'→x.1=x'.1→False:=by
   intro b b' o o' x x' k1 k2 k3 k0 k4 k5 k6
   obtain ⟨c,sh,ex,y,g1,g2,_⟩:=H.obj b' o' k2
   have:ρ' b'=some (c,sh,ex):=e.le _ _ g1
   rw [k5] at this; cases this
   cases hoo:o.own with
   | true=>
    rcases e.dom b o x k1 hoo k4 with ⟨b0,o0,x0,m1,m0,m2,m3⟩ | hge
    ·exact far b' o' _ k2 k3 g1 b0 o0 x0 m1 (.inl m0) m2 (by rw [m3,k6])
    ·have:=(Array.getElem?_eq_some_iff.1 g2).1
     simp at k6; omega
   | false=>
    have hb1:=e.ros b o k1 hoo
    obtain ⟨c1,sh1,ex1,y1,m1,m2,_⟩:=H.obj b o (hsub _ _ hb1)
    have:=e.le _ _ m1
    rw [k4] at this; cases this
    exact far b' o' _ k2 k3 g1 b o _ hb1 (.inr (k0.resolve_left (by simp [hoo]))) m1 k6
  intro b b' o o' x x' k1 k2 k0 k3 k4 k5
  rcases hout b o k1 with k1 | ⟨k1,n1⟩ <;> rcases hout b' o' k2 with k2 | ⟨k2,n2⟩
  ·exact e.hrel.inj b b' o o' x x' k1 k2 k0 k3 k4 k5
  ·exact (cross b b' o o' x x' k1 k2 n2 (.inl k0) k3 k4 k5).elim
  ·exact (cross b' b o' o x' x k2 k1 n1 (.inr k0) k4 k3 k5.symm).elim
  ·obtain ⟨c,sh,ex,y,g1,g2,_⟩:=H.obj b o k1
   obtain ⟨c',sh',ex',y',g1',g2',_⟩:=H.obj b' o' k2
   have e1:=e.le _ _ g1
   have e2:=e.le _ _ g1'
   rw [k3] at e1; rw [k4] at e2; cases e1; cases e2
   exact H.inj b b' o o' _ _ k1 k2 k0 g1 g1' k5
 ·intro c hc hno
  exact e.frame c hc fun b o x hb ho hr=>hno b o x (hsub b o hb) ho hr
 ·intro b o x hb ho hr
  rcases hout b o hb with hb | ⟨hb,hn⟩
  ·rcases e.dom b o x hb ho hr with ⟨b0,o0,x0,g1,g0,g2,g3⟩ | hge
   ·exact .inl ⟨b0,o0,x0,hsub _ _ g1,g0,g2,g3⟩
   ·exact .inr hge
  ·obtain ⟨c,sh,ex,y,g1,g2,_⟩:=H.obj b o hb
   have:ρ' b=some (c,sh,ex):=e.le _ _ g1
   rw [hr] at this; cases this
   exact .inl ⟨b,o,_,hb,ho,g1,rfl⟩
 ·intro b o hb ho
  rcases hout b o hb with hb | ⟨hb,hn⟩
  ·exact hsub _ _ (e.ros b o hb ho)
  ·exact hb
end Go.Ev
end
