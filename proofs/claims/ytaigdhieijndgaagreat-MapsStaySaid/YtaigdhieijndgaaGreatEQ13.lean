import Derived.Test.YtaigdhieijndgaaGreatEQ12
section
namespace Go.Ev
inductive Row (h:Heap) (k n:Nat) (cs:List V):V→Prop
 | nil (hn:n=0) (hc:cs=[]):Row h k n cs (.s (.slice none 0 0))
 | void {a:Addr} (hn:n=0) (hc:cs=[]):Row h k n cs (.s (.slice (some a) 0 0))
 | row {b o c:Nat} {op:Bool} {A:List V} {es:Nat} (h1:cellsAt h b=some (.lst A,es)) (h2:(A.drop o).take (n*k)=cs) (h3:cs.length=n*k):Row h k n cs (.slice b o n c op)
theorem Row.length {h:Heap} {k n:Nat} {cs:List V} {v:V} (H:Row h k n cs v):cs.length=n*k:=by
 cases H with
 | nil hn hc=>subst hn; subst hc; simp
 | void hn hc=>subst hn; subst hc; simp
 | row h1 h2 h3=>exact h3
theorem Row.lenOf {h:Heap} {k n:Nat} {cs:List V} {v:V} (H:Row h k n cs v):lenOf v=some n:=by
 cases H with
 | nil hn hc=>subst hn; rfl
 | void hn hc=>subst hn; rfl
 | row h1 h2 h3=>rfl
theorem Row.all {h:Heap} {k n:Nat} {cs:List V} {v:V} (H:Row h k n cs v):∃ r:Rope V,firstCells h k n v=some r∧r.toList=cs∧r.size=n*k:=by
 cases H with
 | nil hn hc=>subst hn; subst hc; exact ⟨.nil,rfl,rfl,by simp⟩
 | void hn hc=>subst hn; subst hc; exact ⟨.nil,rfl,rfl,by simp⟩
 | @row b o c op A es h1 h2 h3=>
  by_cases hz:n*k=0
  ·refine ⟨.nil,firstCells_zero (Nat.le_refl _) hz,?_,hz.symm⟩
   have:cs=[]:=List.length_eq_zero_iff.1 (by rw [h3,hz])
   rw [this]; rfl
  ·have hs:o+n*k≤A.length:=by
    have:=congrArg List.length h2
    rw [h3] at this
    simp at this; omega
   refine ⟨_,firstCells_lst h1 (Nat.le_refl _) hz hs,h2,?_⟩
   rw [Rope.size_lst,h2,h3]
theorem app_toList (a b:Rope V):(a.app b).toList=a.toList++b.toList:=rfl
theorem append_nil {sz bytes m n:Nat} {h:Heap} {cs:List V} {x:V} (hz:sz≠0) (hx:Row h sz m cs x) (hm:m≠0) (hb:(2*m+192)*bytes≤281474976710656) {K:V→Heap→Nat→Prop}
  (hK:∀ h',h'.get n=some (.cells (.lst cs) sz)→(∀ b,b≠n→h'.get b=h.get b)→K (.slice n 0 m m true) h' (n+1)) :
  appendWK sz bytes h n (.s (.slice none 0 0)) x K:=by
 obtain ⟨r,r1,r2,r3⟩:=hx.all
 have e1:Nat.beq m 0=false:=by simpa using hm
 have e2:Nat.beq r.size (m*sz)=true:=by simpa using r3
 have e3:Nat.ble ((2*m+192)*bytes) 281474976710656=true:=by simpa using hb
 simp only [appendWK,appendW,hx.lenOf,r1,Option.bind_some,e2,Bool.not_true,cond_false,e1,grownW,e3,cond_true,oK_some,normB,Tree.get_set_same]
 refine hK _ (by rw [Tree.get_set_same,r2]) (fun b hb=>by rw [Tree.get_set_ne _ _ hb,Tree.get_set_ne _ _ hb])
theorem append_nil0 {sz bytes n:Nat} {h:Heap} {cs:List V} {x:V} (hx:Row h sz 0 cs x) {K:V→Heap→Nat→Prop} (hK:K (.s (.slice none 0 0)) h n) :
  appendWK sz bytes h n (.s (.slice none 0 0)) x K:=by
 obtain ⟨r,r1,r2,r3⟩:=hx.all
 have e2:Nat.beq r.size (0*sz)=true:=by simpa using r3
 simp only [appendWK,appendW,hx.lenOf,r1,Option.bind_some,e2,Bool.not_true,cond_false,show Nat.beq 0 0=true from rfl,cond_true,oK_some]
 exact hK
theorem append_new {sz bytes m n b o len c:Nat} {h:Heap} {cs old:List V} {x:V} (hz:sz≠0) (hx:Row h sz m cs x) (hs:Row h sz len old (.slice b o len c false)) (hm:c<len+m) (hb:(2*(len+m)+192)*bytes≤281474976710656) {K:V→Heap→Nat→Prop}
  (hK:∀ h',h'.get n=some (.cells (.lst (old++cs)) sz)→(∀ b,b≠n→h'.get b=h.get b)→K (.slice n 0 (len+m) (len+m) true) h' (n+1)) :
  appendWK sz bytes h n (.slice b o len c false) x K:=by
 obtain ⟨r,r1,r2,r3⟩:=hx.all
 obtain ⟨q,q1,q2,q3⟩:=hs.all
 have e2:Nat.beq r.size (m*sz)=true:=by simpa using r3
 have e3:Nat.ble ((2*(len+m)+192)*bytes) 281474976710656=true:=by simpa using hb
 have e4:Nat.ble (len+m) c=false:=by simpa using hm
 simp only [appendWK,appendW,hx.lenOf,r1,q1,Option.bind_some,e2,Bool.not_true,cond_false,e4,grownW,e3,cond_true,oK_some,normB,Tree.get_set_same]
 refine hK _ (by rw [Tree.get_set_same,app_toList,r2,q2]) (fun b hb=>by rw [Tree.get_set_ne _ _ hb,Tree.get_set_ne _ _ hb])
theorem append_own {sz bytes m n b o len c:Nat} {h:Heap} {cs old A:List V} {x:V} (hz:sz≠0) (hx:Row h sz m cs x) (hs:h.get b=some (.cells (.lst A) sz)) (hl:o+c*sz=A.length) (hc:len≤c) (ho:(A.drop o).take (len*sz)=old) (hm:c<len+m) (hb:(2*(len+m)+192)*bytes≤281474976710656) (hbn:b≠n) {K:V→Heap→Nat→Prop}
  (hK:∀ h',h'.get n=some (.cells (.lst (old++cs)) sz)→h'.get b=none→(∀ b',b'≠n→b'≠b→h'.get b'=h.get b')→K (.slice n 0 (len+m) (len+m) true) h' (n+1)) :
  appendWK sz bytes h n (.slice b o len c true) x K:=by
 obtain ⟨r,r1,r2,r3⟩:=hx.all
 have hle:len*sz≤c*sz:=Nat.mul_le_mul_right _ hc
 have hlen:old.length=len*sz:=by rw [← ho]; simp; omega
 obtain ⟨q,q1,q2,q3⟩:=(Row.row (h:=h) (k:=sz) (n:=len) (cs:=old) (b:=b) (o:=o) (c:=c) (op:=true) (A:=A) (es:=sz) (by simp [cellsAt,hs]) ho hlen).all
 have e2:Nat.beq r.size (m*sz)=true:=by simpa using r3
 have e3:Nat.ble ((2*(len+m)+192)*bytes) 281474976710656=true:=by simpa using hb
 have e4:Nat.ble (len+m) c=false:=by simpa using hm
 have e5:Nat.beq (o+c*sz) A.length=true:=by simpa using hl
 simp only [appendWK,appendW,hx.lenOf,r1,q1,Option.bind_some,e2,Bool.not_true,cond_false,e4,cond_true,cellsOwn,hs,Rope.size_lst,e5,show Nat.beq sz sz=true by simp,Bool.and_self,grownW,e3,oK_some,normB,Tree.get_set_same]
 refine hK _ (by rw [Tree.get_set_same,app_toList,r2,q2]) ?_ (fun b' h1 h2=>by rw [Tree.get_set_ne _ _ h1,Tree.get_set_ne _ _ h1,Tree.get_del,if_neg h2])
 rw [Tree.get_set_ne _ _ hbn,Tree.get_set_ne _ _ hbn,Tree.get_del,if_pos rfl]
theorem append_in {sz bytes m n b o len c es:Nat} {op:Bool} {h:Heap} {cs A:List V} {x:V} (hz:sz≠0) (hx:Row h sz m cs x) (hm0:m≠0) (hs:h.get b=some (.cells (.lst A) es)) (hl:o+(len+m)*sz≤A.length) (hm:len+m≤c) {K:V→Heap→Nat→Prop}
  (hK:∀ h',h'.get b=some (.cells (.lst (splice A (o+len*sz) cs)) es)→(∀ b',b'≠b→h'.get b'=h.get b')→K (.slice b o (len+m) c op) h' n) :
  appendWK sz bytes h n (.slice b o len c op) x K:=by
 obtain ⟨r,r1,r2,r3⟩:=hx.all
 have hp:0<m*sz:=Nat.mul_pos (by omega) (by omega)
 have e2:Nat.beq r.size (m*sz)=true:=by simpa using r3
 have e4:Nat.ble (len+m) c=true:=by simpa using hm
 have e5:Nat.beq r.size 0=false:=by simp; omega
 have e6:Nat.beq m 0=false:=by simpa using hm0
 have e7:o+len*sz+r.size≤A.length:=by rw [r3]; rw [Nat.add_mul] at hl; omega
 simp only [appendWK,appendW,hx.lenOf,r1,Option.bind_some,e2,Bool.not_true,cond_false,e4,cond_true,e5,e6,storeCells_lst hs e7,oK_some,normB,Tree.get_set_same]
 refine hK _ ?_ (fun b' h1=>by rw [Tree.get_set_ne _ _ h1,Tree.get_set_ne _ _ h1])
 rw [Tree.get_set_same]
 simp only [splice,Rope.toList_lst,r2]
 rw [show r.size=cs.length by rw [r3,hx.length]]
theorem append_none {sz bytes n b o len c es:Nat} {op:Bool} {h:Heap} {cs A:List V} {x:V} (hx:Row h sz 0 cs x) (hs:h.get b=some (.cells (.lst A) es)) (hc:len≤c) {K:V→Heap→Nat→Prop}
  (hK:∀ h',(∀ b',h'.get b'=h.get b')→K (.slice b o len c op) h' n) :
  appendWK sz bytes h n (.slice b o len c op) x K:=by
 obtain ⟨r,r1,r2,r3⟩:=hx.all
 have e2:Nat.beq r.size (0*sz)=true:=by simpa using r3
 have e4:Nat.ble len c=true:=by simpa using hc
 have e5:Nat.beq r.size 0=true:=by simp; simpa using r3
 simp only [appendWK,appendW,hx.lenOf,r1,Option.bind_some,e2,Bool.not_true,cond_false,Nat.add_zero,e4,cond_true,e5,oK_some,normB,hs]
 refine hK _ fun b'=>?_
 rw [Tree.get_set]
 split
 ·rename_i e; subst e; exact hs.symm
 ·rfl
def SliceAt (h:Heap) (b:Nat) (v:V) (k n:Nat) (cs:List V):Prop:=
 (v=.s (.slice none 0 0)∧n=0∧cs=[])∨∃ o c op A es,v=.slice b o n c op∧cellsAt h b=some (.lst A,es)∧(A.drop o).take (n*k)=cs∧cs.length=n*k
theorem SliceAt.of {h h':Heap} {b:Nat} {v:V} {k n:Nat} {cs:List V} (H:SliceAt h b v k n cs) (e:h'.get b=h.get b):SliceAt h' b v k n cs:=by
 rcases H with H | ⟨o,c,op,A,es,h1,h2,h3⟩
 ·exact .inl H
 ·exact .inr ⟨o,c,op,A,es,h1,by unfold cellsAt at h2 ⊢; rw [e]; exact h2,h3⟩
theorem SliceAt.row {h:Heap} {b:Nat} {v:V} {k n:Nat} {cs:List V} (H:SliceAt h b v k n cs):Row h k n cs v:=by
 rcases H with ⟨rfl,h1,h2⟩ | ⟨o,c,op,A,es,rfl,h1,h2,h3⟩
 ·exact .nil h1 h2
 ·exact .row h1 h2 h3
def GrowAt (h:Heap) (a:Nat) (v:V) (k n:Nat) (cs:List V):Prop:=
 (v=.s (.slice none 0 0)∧n=0∧cs=[])∨∃ o c op A,v=.slice a o n c op∧n≤c∧h.get a=some (.cells (.lst A) k)∧o+c*k≤A.length∧(op=true→o+c*k=A.length)∧(A.drop o).take (n*k)=cs
theorem GrowAt.nil (h:Heap) (a k:Nat):GrowAt h a (.s (.slice none 0 0)) k 0 []:=.inl ⟨rfl,rfl,rfl⟩
theorem GrowAt.at {h:Heap} {a:Nat} {v:V} {k n:Nat} {cs:List V} (H:GrowAt h a v k n cs):SliceAt h a v k n cs:=by
 rcases H with H | ⟨o,c,op,A,h1,h2,h3,h4,_,h5⟩
 ·exact .inl H
 ·refine .inr ⟨o,c,op,A,k,h1,by simp [cellsAt,h3],h5,?_⟩
  have:n*k≤c*k:=Nat.mul_le_mul_right _ h2
  rw [← h5]; simp; omega
theorem GrowAt.of {h h':Heap} {b:Nat} {v:V} {k n:Nat} {cs:List V} (H:GrowAt h b v k n cs) (e:h'.get b=h.get b):GrowAt h' b v k n cs:=by
 rcases H with H | ⟨o,c,op,A,h1,h2,h3,h4⟩
 ·exact .inl H
 ·exact .inr ⟨o,c,op,A,h1,h2,by rw [e]; exact h3,h4⟩
theorem take_splice {A cs:List V} {o i:Nat} (h:o+i+cs.length≤A.length):((splice A (o+i) cs).drop o).take (i+cs.length)=(A.drop o).take i++cs:=by
 unfold splice
 rw [List.append_assoc,List.drop_append,List.take_append,List.drop_take]
 have e1:(List.take (o+i) A).length=o+i:=by simp; omega
 rw [show o+i-o=i by omega,e1,show o-(o+i)=0 by omega,List.drop_zero]
 have e2:(List.take i (List.drop o A)).length=i:=by simp; omega
 rw [e2,List.take_of_length_le (by rw [e2]; omega),show i+cs.length-i=cs.length by omega]
 rw [List.take_append,List.take_of_length_le (Nat.le_refl _),show cs.length-cs.length=0 by omega]
 simp
theorem grow_ok {sz bytes m n a len:Nat} {h:Heap} {cs new:List V} {v x:V} (hz:sz≠0) (hG:GrowAt h a v sz len cs) (hx:Row h sz m new x) (ha:a<n) (hb:(2*(len+m)+192)*bytes≤281474976710656) {K:V→Heap→Nat→Prop}
  (hK:∀ v' a' h' n',(a'=a∨a'=n)→a' < n'→n≤n'→GrowAt h' a' v' sz (len+m) (cs++new)→(∀ b,b≠a→b≠n→h'.get b=h.get b)→K v' h' n') :
  appendWK sz bytes h n v x K:=by
 by_cases hm:m=0
 ·subst hm
  have e:new=[]:=List.length_eq_zero_iff.1 (by rw [hx.length]; simp)
  subst e
  rcases hG with ⟨rfl,rfl,rfl⟩ | ⟨o,c,op,A,rfl,h2,h3,h4,h4',h5⟩
  ·exact append_nil0 hx (hK _ a h n (.inl rfl) ha (Nat.le_refl _) (.inl ⟨rfl,rfl,rfl⟩) (fun _ _ _=>rfl))
  ·refine append_none hx h3 h2 fun h' he=>hK _ a h' n (.inl rfl) ha (Nat.le_refl _) (.inr ⟨o,c,op,A,rfl,h2,by rw [he]; exact h3,h4,h4',by simpa using h5⟩) (fun b _ _=>he b)
 ·rcases hG with ⟨rfl,rfl,rfl⟩ | ⟨o,c,op,A,rfl,h2,h3,h4,h4',h5⟩
  ·refine append_nil hz hx hm (by simpa using hb) fun h' h1 h2=>?_
   refine hK _ n h' (n+1) (.inr rfl) (by omega) (by omega) (.inr ⟨0,m,true,new,by simp,by omega,h1,by rw [hx.length]; omega,fun _=>by rw [hx.length]; omega,?_⟩) (fun b _ hb=>h2 b hb)
   rw [List.drop_zero,Nat.zero_add,List.nil_append,List.take_of_length_le (by rw [hx.length]; exact Nat.le_refl _)]
  ·have hlen:cs.length=len*sz:=by
    have hle:len*sz≤c*sz:=Nat.mul_le_mul_right _ h2
    rw [← h5]; simp; omega
   by_cases hc:len+m≤c
   ·have hle:(len+m)*sz≤c*sz:=Nat.mul_le_mul_right _ hc
    refine append_in hz hx hm h3 (by omega) hc fun h' h6 h7=>?_
    have hl:=hx.length
    have h8:o+len*sz+new.length≤A.length:=by rw [hl]; rw [Nat.add_mul] at hle; omega
    refine hK _ a h' n (.inl rfl) ha (Nat.le_refl _) (.inr ⟨o,c,op,_,rfl,hc,h6,by rw [splice_length h8]; exact h4,fun e=>by rw [splice_length h8]; exact h4' e,?_⟩) (fun b hb _=>h7 b hb)
    rw [Nat.add_mul,← hl,take_splice h8,h5]
   ·have fin:∀ h',h'.get n=some (.cells (.lst (cs++new)) sz)→GrowAt h' n (.slice n 0 (len+m) (len+m) true) sz (len+m) (cs++new):=by
     intro h' h6
     refine .inr ⟨0,len+m,true,cs++new,rfl,Nat.le_refl _,h6,by simp [hlen,hx.length,Nat.add_mul],fun _=>by simp [hlen,hx.length,Nat.add_mul],?_⟩
     rw [List.drop_zero,List.take_of_length_le (by simp [hlen,hx.length,Nat.add_mul])]
    cases op with
    | true=>
     refine append_own hz hx h3 (h4' rfl) h2 h5 (by omega) hb (by omega) fun h' h6 _ h7=>?_
     exact hK _ n h' (n+1) (.inr rfl) (by omega) (by omega) (fin h' h6) (fun b h8 h9=>h7 b h9 h8)
    | false=>
     refine append_new hz hx (.row (A:=A) (es:=sz) (by simp [cellsAt,h3]) h5 hlen) (by omega) hb fun h' h6 h7=>?_
     exact hK _ n h' (n+1) (.inr rfl) (by omega) (by omega) (fin h' h6) (fun b _ h9=>h7 b h9)
theorem Row.first {h:Heap} {k n:Nat} {cs:List V} {v:V} (H:Row h k n cs v) {m:Nat} (hm:m≤n):∃ r:Rope V,firstCells h k m v=some r∧r.toList=cs.take (m*k)∧r.size=m*k:=by
 cases H with
 | nil hn hc=>
  subst hn; subst hc
  have:m=0:=by omega
  subst this
  exact ⟨.nil,rfl,by simp [Rope.toList],by simp⟩
 | void hn hc=>
  subst hn; subst hc
  have:m=0:=by omega
  subst this
  exact ⟨.nil,rfl,by simp [Rope.toList],by simp⟩
 | @row b o c op A es h1 h2 h3=>
  by_cases hz:m*k=0
  ·exact ⟨.nil,firstCells_zero hm hz,by rw [hz]; rfl,hz.symm⟩
  ·have hmn:m*k≤n*k:=Nat.mul_le_mul_right _ hm
   have hs:o+m*k≤A.length:=by
    have:=congrArg List.length h2
    rw [h3] at this
    simp at this; omega
   refine ⟨_,firstCells_lst h1 hm hz hs,?_,?_⟩
   ·show (A.drop o).take (m*k)=cs.take (m*k)
    rw [← h2,List.take_take,Nat.min_eq_left hmn]
   ·rw [Rope.size_lst]; simp; omega
theorem copy_ok {sz b o len c es m : Nat} {op : Bool} {h : Heap} {cs A : List V} {x : V} (hz : sz ≠ 0) (hs : h.get b = some (.cells (.lst A) es)) (hl : o + len * sz ≤ A.length) (hx : Row h sz m cs x) {K : V → Heap → Prop}
    (hK : ∀ h', h'.get b = some (.cells (.lst (splice A o (cs.take (min m len * sz)))) es) → (∀ b', b' ≠ b → h'.get b' = h.get b') → K (.s (.int .i64 (min m len : Nat))) h') :
    copyWK sz h (.slice b o len c op) x K := by
  have e0 : (bif Nat.ble m len then m else len) = min m len := by
    cases hb : Nat.ble m len with
    | true => have : m ≤ len := by simpa using hb
              simp; omega
    | false => have : ¬ m ≤ len := by intro h; rw [show Nat.ble m len = true by simpa using h] at hb; cases hb
               simp; omega
  obtain ⟨r, r1, r2, r3⟩ := hx.first (Nat.min_le_left m len)
  simp only [copyWK, copyW, hx.lenOf, Option.bind_some, e0, r1, goInt_eq]
  by_cases hm : min m len = 0
  · have e1 : Nat.beq r.size 0 = true := by rw [r3, hm]; simp
    simp only [e1, cond_true, oK_some]
    refine hK h ?_ (fun _ _ => rfl)
    rw [hm]; simp [splice, hs]
  · have hp : 0 < min m len * sz := Nat.mul_pos (by omega) (by omega)
    have e1 : Nat.beq r.size 0 = false := by simp; omega
    have e2 : Nat.beq (min m len) 0 = false := by simpa using hm
    have hle : min m len * sz ≤ len * sz := Nat.mul_le_mul_right _ (Nat.min_le_right m len)
    have e3 : o + r.size ≤ A.length := by rw [r3]; omega
    simp only [e1, e2, cond_false, storeCells_lst hs e3, Option.bind_some, oK_some]
    refine hK _ ?_ (fun b' hb => Tree.get_set_ne _ _ hb)
    rw [Tree.get_set_same, r2]
    have : (cs.take (min m len * sz)).length = r.size := by
      rw [List.length_take, hx.length, r3]
      exact Nat.min_eq_left (Nat.mul_le_mul_right _ (Nat.min_le_left m len))
    simp only [splice, this]
end Go.Ev
end
section
namespace Go.Ev
set_option maxRecDepth 20000
theorem CallK.monoN {C:Ctx} {f:FuncId} {args:List V} {h:Heap} {n:Nat} {K K':V→Heap→Nat→Prop} (hm:∀ v h' n',K v h' n'→n≤n'→K' v h' n') (hk:CallK C f args h n K):CallK C f args h n K':=
 CallK.hkeep hk fun _ v h' n' k hn hok=>⟨h',fun b o hb=>⟨o,hb,hok b o hb⟩,hm v h' n' k hn⟩
def Same (n:Nat) (fp:List Nat) (h h':Heap):Prop:=∀ b,b<n→b ∉ fp→h'.get b=h.get b
theorem Same.refl (n:Nat) (fp:List Nat) (h:Heap):Same n fp h h:=fun _ _ _=>rfl
theorem Same.new (n:Nat) (fp:List Nat) (h:Heap) (o:O):Same n fp h (h.set n o):=fun b hb _=>by rw [Tree.get_set,if_neg (by omega)]
theorem keyNow_i (a b:Int):keyNow (.int .i64) (.s (.int .i64 a)) (.s (.int .i64 b))=some (decide (a=b)):=by
 simp [keyNow,intEq_dec,kindEq_self]
@[simp high] theorem condF {α:Type} (a b:α):(bif false then a else b)=b:=of_eq rfl
@[simp high] theorem condT {α:Type} (a b:α):(bif true then a else b)=a:=of_eq rfl
end Go.Ev
end
section
namespace Go.Ev
def tl (f:Nat→V) (a:Nat):Nat→List V→List V
 | 0,r=>r
 | n+1,r=>f a::tl f (a+1) n r
def un:Nat→List V→List V
 | 0,r=>r
 | n+1,r=>undefV::un n r
theorem ex_of {P:(Nat→V)→List V} {L:List V} {h:Heap} {n:Nat} {d:List Nat} (e:P (fun i=>L.getD i undefV)=L):∃ f,(⟨mkTm L,h,n,d⟩:St)=⟨mkTm (P f),h,n,d⟩:=⟨_,by rw [e]⟩
variable {C:Ctx}
theorem rangeFuncK {rnd:Option Nat} {f:Operand} {ps:Array Tmp} {assign body:Code} {s:St} {Q:X→St→Prop} {g:FuncId} {first caps:List V} {q:Nat×St}
  (hf:evalT C s.tm f=some (.func (.func g) first caps)) (hq:beginLoop rnd ps.toList assign body s=some q)
  (hc:CallK C g (first++[.yield q.1]++caps) q.2.h q.2.n fun _ h' n'=>oK (endLoop q.1 h') fun e=>Q e.1 { q.2 with h:=e.2,n:=n' }):CodeK C rnd (.rangeFunc f ps assign body) s Q:=by
 intro ρ a w r S hr N
 refine wpIn_rangeFunc fun fn _=>?_
 obtain ⟨c,mark,w1,ρ1,b1,e1,hl,S1⟩:=beginLoop_run hq S hr fn
 have hv:=evalT_rel (a:=a) S.glob (fun t _=>S.tm.get t) hf
 generalize hy:a.eval f=y at hv
 cases hv with | @func _ _ _ xs ys g1 g2=>
 have hargs:VRels ρ1 (first++[.yield q.1]++caps) (xs++[.func (.yield c) #[] #[]]++ys):=((g1.mono e1.le).append (.single (.yield hl))).append (g2.mono e1.le)
 obtain ⟨k1,k2⟩:=hc.run ρ1 w1 _ hargs S1.heap S1.fr S1.glob
 refine ⟨c,mark,w1,{ target:=.fn (.func g) ys.toArray,args:=xs.toArray++#[Value.func (.yield c) #[] #[]] },w1,g,(xs++[Value.func (.yield c) #[] #[]]++ys).toArray,w1,b1,?_,fun _ _=>trivial,?_,fun h=>by simp [Fence.wide] at h,?_⟩
 ·have hc0:a.eval (.const (.func (.yield c) #[] #[]))=.func (.yield c) #[] #[]:=rfl
  simp [resolve,rangeCall,hy,Deferred.ofValue,hc0]
 ·have:xs.toArray++#[Value.func (.yield c) #[] #[]]++ys.toArray=(xs++[Value.func (.yield c) #[] #[]]++ys).toArray:=by simp
  simp only [invoke,this]
  exact k1
 ·rw [callsIn_wd]
  refine CallsIn.mono (k2 _) ?_
  rintro en w2 ⟨v,h',n',hK,ρ2,z,rfl,e2,_⟩
  obtain ⟨e,he,hK⟩:=of_oK hK
  obtain ⟨jump,w3,q1,q2,q3⟩:=endLoop_run (C:=C) he n' e2.hrel (e2.le _ _ hl)
  refine ⟨jump,w3,q1,?_⟩
  have ee:=e1.trans (e2.trans q2)
  have fin:∀ x,x=e.1→PostK C ρ s w Q (xOf x) { a with defers:=mark++a.defers } w3:=by
   rintro x rfl
   exact ⟨_,_,hK,rfl,ρ2,ee,⟨S1.tm.mono e2.le,q2.hrel,S1.fr.evo (e2.trans q2),S1.glob.mono e2.le,S1.defs.mono e2.le⟩⟩
  subst q3
  generalize he1:e.1=x at fin ⊢
  cases x with
  | normal=>exact fin _ rfl
  | exit id=>exact wpIn_exit (fin _ rfl)
  | goto l=>exact wpIn_goto (fin _ rfl)
  | ret=>exact wpIn_ret (fin _ rfl)
theorem roundK {l:Nat} {args:List V} {h:Heap} {n:Nat} {K:V→Heap→Nat→Prop} {pend:Option Code} {tm tm1:Tm} {ps:List Tmp} {as bd:Code}
  (hl:h.get l=some (.loop .ready pend tm ps as bd)) (hp:putAll ps args tm=some tm1)
  (c1:CodeK C (some l) as { tm:=tm1,h,n,defs:=[] } fun x s1=>x=.normal∧oK (setBusy l s1.h) fun h1=>
   CodeK C (some l) bd { s1 with h:=h1 } fun x s2=>oK (endRound x l s2.h s2.n) fun r=>K r.1 r.2.1 r.2.2):RoundK C l args h n K:=by
 intro ρ w c sh ex xs hρ hxs H hf hg
 obtain ⟨o,g1,g2⟩:=H.at hl hρ
 obtain ⟨L,rfl,h0,l1,l2,l3,l4,l5,l6⟩:=g2.loop_inv
 obtain ⟨k1,k2⟩:=putAll_rel hp hxs l3
 refine ⟨L.fn,_,L.assign,L.body,run_yield g1 (by rw [l4]; simpa using k2),fun N=>?_⟩
 have etm:(L.params.zip xs.toArray).foldl (fun tmps (x:Tmp×Value)=>tmps.setIfInBounds x.1 x.2) L.tmps=(ps.zip xs).foldl (fun tmps (q:Tmp×Value)=>tmps.setIfInBounds q.1 q.2) L.tmps:=by
  rw [l4]; simp
 refine roundIn_of_wpIn trivial ?_
 rw [l5,l6]
 show as.wpIn (Wd (some c)) N C.P _ _ w
 have S0:SRel C ρ { tm:=tm1,h,n,defs:=[] } { tmps:=(L.params.zip xs.toArray).foldl (fun tmps (x:Tmp×Value)=>tmps.setIfInBounds x.1 x.2) L.tmps,defers:=[] } w:=
  ⟨by rw [etm]; exact k1,H,hf,hg,.nil⟩
 refine wpIn_mono (c1 ρ _ w (some c) S0 (.some hρ) N) ?_
 rintro e a1 w1 ⟨x1,s1,⟨rfl,hb⟩,rfl,ρ1,e1,S1⟩
 obtain ⟨h1,hb,c2⟩:=of_oK hb
 unfold setBusy at hb
 split at hb
 ·rename_i pend1 tm2 ps2 as2 bd2 hl1
  cases hb
  have hρ1:=e1.le _ _ hρ
  obtain ⟨o1,m1,m2⟩:=S1.heap.at hl1 hρ1
  obtain ⟨L1,rfl,n0,n1,n2,n3,n4,n5,n6⟩:=m2.loop_inv
  refine ⟨_,run_beginRound m1 n1,?_⟩
  have e2:Evo ρ1 s1.h s1.n w1 ρ1 (s1.h.set l (.loop .busy pend1 tm2 ps2 as2 bd2)) s1.n (w1.putObj c (.loop { L1 with state:=.busy })):=
   Evo.turn S1.heap _ hl1 hρ1 rfl rfl (.loop n0 rfl n2 n3 n4 n5 n6)
  have S2:SRel C ρ1 { s1 with h:=s1.h.set l (.loop .busy pend1 tm2 ps2 as2 bd2) } a1 (w1.putObj c (.loop { L1 with state:=.busy })):=
   ⟨S1.tm,e2.hrel,S1.fr,S1.glob,S1.defs⟩
  refine wpIn_mono (c2 ρ1 a1 _ (some c) S2 (.some hρ1) N) ?_
  rintro e a2 w2 ⟨x,s2,he,rfl,ρ2,e3,S3⟩
  obtain ⟨⟨v,h',n'⟩,he,hK⟩:=of_oK he
  obtain ⟨y,w3,q1,q2,q3⟩:=endRound_run (C:=C) he S3.heap (e3.le _ _ hρ1)
  have fin:∃ v h' n',K v h' n'∧Gives ρ h n w v h' n' (.returned y) w3:=⟨v,h',n',hK,ρ2,y,rfl,e1.trans (e2.trans (e3.trans q2)),q3⟩
  cases x <;> exact ⟨y,w3,q1,fin⟩
 ·cases hb
theorem loop_onceF (hC:GOk C) {body:Code} {s:St} {Q:X→St→Prop} {P:St→Prop} (hs:P s) (H:∀ s',P s'→Wp C body s' (roundQ (fun _ _=>False) 0 Q)):LoopK C none body s Q:=loop_once hC (H s hs)
theorem via {P R:St→Prop} {s:St} (hs:P s) (H:∀ s',P s'→R s'):R s:=H s hs
abbrev Ko:=V→Heap→Nat→Prop
def HCall (C:Ctx) (f:Func) (args:List V) (h:Heap) (n:Nat) (K:V→Heap→Nat→Prop):Prop:=(∀ b o,h.get b=some o→b<n)→Wp C (bodyOf f) ⟨initTm f args,h,n,[]⟩ (retW C f K)
theorem callK_by (hC:GOk C) {f:FuncId} {fn:Func} {args:List V} {h:Heap} {n:Nat} {K:V→Heap→Nat→Prop} (hf:C.F.get f=some fn) (hb:fn.body=some (bodyOf fn)) (hn:Nat.ble args.length fn.ntmps=true) (hw:HCall C fn args h n K):CallK C f args h n K:=callK_of hC hf hb hn hw
end Go.Ev
end
section
namespace Go.Ev
def Off0 (v:V):Prop:=∀ b o l c p,v=.slice b o l c p→o=0
theorem Off0.nil:Off0 (.s (.slice none 0 0)):=fun _ _ _ _ _ e=>by cases e
theorem grow0_ok {sz bytes m n a len:Nat} {h:Heap} {cs new:List V} {v x:V} (hz:sz≠0) (hG:GrowAt h a v sz len cs) (hx:Row h sz m new x) (ha:a<n) (hb:(2*(len+m)+192)*bytes≤281474976710656) {K:V→Heap→Nat→Prop}
  (hK:∀ v' a' h' n',(a'=a∨a'=n)→a' < n'→n≤n'→GrowAt h' a' v' sz (len+m) (cs++new)→(∀ b,b≠a→b≠n→h'.get b=h.get b)→(Off0 v→Off0 v')→K v' h' n') :
  appendWK sz bytes h n v x K:=by
 by_cases hm:m=0
 ·subst hm
  have e:new=[]:=List.length_eq_zero_iff.1 (by rw [hx.length]; simp)
  subst e
  rcases hG with ⟨rfl,rfl,rfl⟩ | ⟨o,c,op,A,rfl,h2,h3,h4,h4',h5⟩
  ·exact append_nil0 hx (hK _ a h n (.inl rfl) ha (Nat.le_refl _) (.inl ⟨rfl,rfl,rfl⟩) (fun _ _ _=>rfl) id)
  ·refine append_none hx h3 h2 fun h' he=>hK _ a h' n (.inl rfl) ha (Nat.le_refl _) (.inr ⟨o,c,op,A,rfl,h2,by rw [he]; exact h3,h4,h4',by simpa using h5⟩) (fun b _ _=>he b) (fun h0 b o' l c' p e=>by cases e; exact h0 _ _ _ _ _ rfl)
 ·rcases hG with ⟨rfl,rfl,rfl⟩ | ⟨o,c,op,A,rfl,h2,h3,h4,h4',h5⟩
  ·refine append_nil hz hx hm (by simpa using hb) fun h' h1 h2=>?_
   refine hK _ n h' (n+1) (.inr rfl) (by omega) (by omega) (.inr ⟨0,m,true,new,by simp,by omega,h1,by rw [hx.length]; omega,fun _=>by rw [hx.length]; omega,?_⟩) (fun b _ hb=>h2 b hb) (fun _ b o' l c' p e=>by cases e; rfl)
   rw [List.drop_zero,Nat.zero_add,List.nil_append,List.take_of_length_le (by rw [hx.length]; exact Nat.le_refl _)]
  ·have hlen:cs.length=len*sz:=by
    have hle:len*sz≤c*sz:=Nat.mul_le_mul_right _ h2
    rw [← h5]; simp; omega
   by_cases hc:len+m≤c
   ·have hle:(len+m)*sz≤c*sz:=Nat.mul_le_mul_right _ hc
    refine append_in hz hx hm h3 (by omega) hc fun h' h6 h7=>?_
    have hl:=hx.length
    have h8:o+len*sz+new.length≤A.length:=by rw [hl]; rw [Nat.add_mul] at hle; omega
    refine hK _ a h' n (.inl rfl) ha (Nat.le_refl _) (.inr ⟨o,c,op,_,rfl,hc,h6,by rw [splice_length h8]; exact h4,fun e=>by rw [splice_length h8]; exact h4' e,?_⟩) (fun b hb _=>h7 b hb) (fun h0 b o' l c' p e=>by cases e; exact h0 _ _ _ _ _ rfl)
    rw [Nat.add_mul,← hl,take_splice h8,h5]
   ·have fin:∀ h',h'.get n=some (.cells (.lst (cs++new)) sz)→GrowAt h' n (.slice n 0 (len+m) (len+m) true) sz (len+m) (cs++new):=by
     intro h' h6
     refine .inr ⟨0,len+m,true,cs++new,rfl,Nat.le_refl _,h6,by simp [hlen,hx.length,Nat.add_mul],fun _=>by simp [hlen,hx.length,Nat.add_mul],?_⟩
     rw [List.drop_zero,List.take_of_length_le (by simp [hlen,hx.length,Nat.add_mul])]
    cases op with
    | true=>
     refine append_own hz hx h3 (h4' rfl) h2 h5 (by omega) hb (by omega) fun h' h6 _ h7=>?_
     exact hK _ n h' (n+1) (.inr rfl) (by omega) (by omega) (fin h' h6) (fun b h8 h9=>h7 b h9 h8) (fun _ b o' l c' p e=>by cases e; rfl)
    | false=>
     refine append_new hz hx (.row (A:=A) (es:=sz) (by simp [cellsAt,h3]) h5 hlen) (by omega) hb fun h' h6 h7=>?_
     exact hK _ n h' (n+1) (.inr rfl) (by omega) (by omega) (fin h' h6) (fun b _ h9=>h7 b h9) (fun _ b o' l c' p e=>by cases e; rfl)
end Go.Ev
end
section
namespace Go.Ev
class Box (α:Type) where
 K:α
def oKS {α:Type} (x:Option α) [B:Box (α→Prop)]:Prop:=oK x B.K
theorem oK_S {α:Type} (x:Option α) (K:α→Prop):oK x K=@oKS α x ⟨K⟩:=of_eq rfl
theorem oKS_some {α:Type} (a:α) (K:α→Prop) : @oKS α (some a) ⟨K⟩=K a:=of_eq rfl
def condS (c:Bool) [A:Box (Prop×Prop)]:Prop:=bif c then A.K.1 else A.K.2
theorem cond_S (c:Bool) (a b:Prop):(bif c then a else b)=@condS c ⟨(a,b)⟩:=of_eq rfl
theorem condS_t (a b:Prop) : @condS true ⟨(a,b)⟩=a:=of_eq rfl
theorem condS_f (a b:Prop) : @condS false ⟨(a,b)⟩=b:=of_eq rfl
def CallS (C:Ctx) (f:FuncId) (args:List V) (h:Heap) (n:Nat) [B:Box (V→Heap→Nat→Prop)]:Prop:=CallK C f args h n B.K
theorem callK_S (C:Ctx) (f:FuncId) (args:List V) (h:Heap) (n:Nat) (K:V→Heap→Nat→Prop):CallK C f args h n K=@CallS C f args h n ⟨K⟩:=of_eq rfl
def LoopS (C:Ctx) (rnd:Option Nat) (c:Code) [S:Box St] [B:Box (X→St→Prop)]:Prop:=LoopK C rnd c S.K B.K
theorem loopK_S (C:Ctx) (rnd:Option Nat) (c:Code) (s:St) (Q:X→St→Prop):LoopK C rnd c s Q=@LoopS C rnd c ⟨s⟩ ⟨Q⟩:=of_eq rfl
theorem LoopS.of {C:Ctx} {rnd:Option Nat} {c:Code} {s:St} {Q:X→St→Prop} (H:LoopK C rnd c s Q) : @LoopS C rnd c ⟨s⟩ ⟨Q⟩:=H
end Go.Ev
end
section
namespace Go.Ev
section
variable {α:Type}
structure PermIn (x y:Nat) (L L':List α):Prop where
 len:L'.length=L.length
 perm:L'.Perm L
 out:∀ p,p<x∨y≤p→L'[p]? = L[p]?
theorem PermIn.refl (x y:Nat) (L:List α):PermIn x y L L:=⟨rfl,.refl _,fun _ _=>rfl⟩
theorem PermIn.trans {x y:Nat} {A B C:List α} (a:PermIn x y A B) (b:PermIn x y B C):PermIn x y A C:=
 ⟨b.len.trans a.len,b.perm.trans a.perm,fun p h=>(b.out p h).trans (a.out p h)⟩
theorem PermIn.mono {x y x' y':Nat} {A B:List α} (a:PermIn x y A B) (h1:x'≤x) (h2:y≤y'):PermIn x' y' A B:=
 ⟨a.len,a.perm,fun p h=>a.out p (by omega)⟩
theorem seg_split (L:List α) {x y:Nat} (h:x≤y):L=L.take x++(L.drop x).take (y-x)++L.drop y:=by
 have h1:(L.drop x).take (y-x)++L.drop y=L.drop x:=by
  have:L.drop y=(L.drop x).drop (y-x):=by rw [List.drop_drop,show x+(y-x)=y by omega]
  rw [this,List.take_append_drop]
 rw [List.append_assoc,h1,List.take_append_drop]
theorem PermIn.seg {x y:Nat} {L L':List α} (a:PermIn x y L L') (h:x≤y):((L'.drop x).take (y-x)).Perm ((L.drop x).take (y-x)):=by
 have h1:L'.take x=L.take x:=by
  apply List.ext_getElem?
  intro i
  rw [List.getElem?_take,List.getElem?_take]
  split
  ·exact a.out i (.inl ‹_›)
  ·rfl
 have h2:L'.drop y=L.drop y:=by
  apply List.ext_getElem?
  intro i
  rw [List.getElem?_drop,List.getElem?_drop]
  exact a.out _ (.inr (by omega))
 have e:=a.perm
 rw [seg_split L' h,seg_split L h,h1,h2,List.append_assoc,List.append_assoc] at e
 exact (List.perm_append_right_iff _).1 ((List.perm_append_left_iff _).1 e)
theorem mem_segIff {L:List α} {x y:Nat} {v:α}:v∈(L.drop x).take (y-x)↔∃ p,x≤p∧p<y∧L[p]? = some v:=by
 constructor
 ·intro h
  obtain ⟨i,hi,e⟩:=List.mem_iff_getElem.1 h
  have hi':i<y-x:=by rw [List.length_take] at hi; omega
  refine ⟨x+i,by omega,by omega,?_⟩
  have:((L.drop x).take (y-x))[i]? = some v:=by rw [List.getElem?_eq_getElem hi,e]
  rwa [List.getElem?_take_of_lt hi',List.getElem?_drop] at this
 ·rintro ⟨p,h1,h2,h3⟩
  have:((L.drop x).take (y-x))[p-x]? = some v:=by
   rw [List.getElem?_take_of_lt (by omega),List.getElem?_drop,show x+(p-x)=p by omega,h3]
  exact List.mem_of_getElem? this
theorem PermIn.all {x y:Nat} {L L':List α} (a:PermIn x y L L') {P:α→Prop} (H:∀ p v,x≤p→p<y→L[p]? = some v→P v):∀ p v,x≤p→p<y→L'[p]? = some v→P v:=by
 intro p v h1 h2 h3
 have h:v∈(L'.drop x).take (y-x):=mem_segIff.2 ⟨p,h1,h2,h3⟩
 obtain ⟨q,q1,q2,q3⟩:=mem_segIff.1 ((a.seg (by omega)).mem_iff.1 h)
 exact H q v q1 q2 q3
variable [Inhabited α]
def swap (L:List α) (i j:Nat):List α:=(L.set i (L.getD j default)).set j (L.getD i default)
theorem swap_length (L:List α) (i j:Nat):(swap L i j).length=L.length:=by simp [swap]
theorem swap_get (L:List α) {i j:Nat} (hi:i<L.length) (hj:j<L.length) (p:Nat):(swap L i j)[p]? = if p=j then L[i]? else if p=i then L[j]? else L[p]?:=by
 unfold swap
 rw [List.getElem?_set,List.getElem?_set]
 simp only [List.length_set,List.getD_eq_getElem?_getD]
 by_cases h1:j=p
 ·subst h1
  simp [hj,List.getElem?_eq_getElem hi]
 ·rw [if_neg h1,if_neg (show ¬ p=j from fun h=>h1 h.symm)]
  by_cases h2:i=p
  ·subst h2
   simp [hi,List.getElem?_eq_getElem hj]
  ·rw [if_neg h2,if_neg (show ¬ p=i from fun h=>h2 h.symm)]
theorem swap_perm (L:List α) {i j:Nat} (hi:i<L.length) (hj:j<L.length):(swap L i j).Perm L:=by
 have:=List.set_set_perm (as:=L) hi hj
 unfold swap
 rw [List.getD_eq_getElem?_getD,List.getD_eq_getElem?_getD,List.getElem?_eq_getElem hi,List.getElem?_eq_getElem hj]
 exact this
theorem swap_comm (L:List α) (i j:Nat):swap L i j=swap L j i:=by
 unfold swap
 by_cases h:i=j
 ·subst h; rfl
 ·exact List.set_comm _ _ h
theorem PermIn.swap (L:List α) {x y i j:Nat} (hi:i<L.length) (hj:j<L.length) (h1:x≤i) (h2:i<y) (h3:x≤j) (h4:j<y):PermIn x y L (swap L i j):=
 ⟨swap_length _ _ _,swap_perm L hi hj,fun p hp=>by rw [swap_get L hi hj,if_neg (by omega),if_neg (by omega)]⟩
end
section
variable {α:Type} [Inhabited α]
def kx (f:α→List Int) (L:List α) (p:Nat):List Int:=f (L.getD p default)
theorem kx_of {f:α→List Int} {L L':List α} {p q:Nat} (e:L'[p]? = L[q]?):kx f L' p=kx f L q:=by
 simp [kx,List.getD_eq_getElem?_getD,e]
theorem kx_swap (f:α→List Int) (L:List α) {i j:Nat} (hi:i<L.length) (hj:j<L.length) (p:Nat):kx f (swap L i j) p=if p=j then kx f L i else if p=i then kx f L j else kx f L p:=by
 have:=swap_get L hi hj p
 split
 ·rw [if_pos ‹_›] at this; exact kx_of this
 ·rw [if_neg ‹_›] at this
  split
  ·rw [if_pos ‹_›] at this; exact kx_of this
  ·rw [if_neg ‹_›] at this; exact kx_of this
def SortedIn (f:α→List Int) (x y:Nat) (L:List α):Prop:=∀ p q,x≤p→p<q→q<y→kx f L p≤kx f L q
theorem PermIn.allK {f:α→List Int} {x y:Nat} {L L':List α} (a:PermIn x y L L') (hy:y≤L.length) {P:List Int→Prop} (H:∀ p,x≤p→p<y→P (kx f L p)):∀ p,x≤p→p<y→P (kx f L' p):=by
 have:=a.all (P:=fun v=>P (f v)) fun p v h1 h2 h3=>by
  have:=H p h1 h2
  unfold kx at this
  rwa [List.getD_eq_getElem?_getD,h3] at this
 intro p h1 h2
 have hp:p<L'.length:=by rw [a.len]; omega
 have:=this p _ h1 h2 (List.getElem?_eq_getElem hp)
 unfold kx
 rwa [List.getD_eq_getElem?_getD,List.getElem?_eq_getElem hp]
theorem PermIn.outK {f:α→List Int} {x y:Nat} {L L':List α} (a:PermIn x y L L') {p:Nat} (h:p<x∨y≤p):kx f L' p=kx f L p:=kx_of (a.out p h)
theorem leI_trans {a b c:List Int} (h1:a≤b) (h2:b≤c):a≤c:=Std.le_trans h1 h2
theorem notI {a b:List Int}:¬ a<b↔b≤a:=List.not_lt
theorem ltI_le {a b:List Int} (h:a<b):a≤b:=Std.le_of_lt h
theorem leI_lt {a b c:List Int} (h1:a<b) (h2:b≤c):a<c:=Std.lt_of_lt_of_le h1 h2
theorem leI_lt' {a b c:List Int} (h1:a≤b) (h2:b<c):a<c:=Std.lt_of_le_of_lt h1 h2
theorem leI_refl (a:List Int):a≤a:=Std.le_refl a
theorem leI_antisymm {a b:List Int} (h1:a≤b) (h2:b≤a):a=b:=Std.le_antisymm h1 h2
theorem leI_total (a b:List Int):a≤b∨b≤a:=Std.le_total
end
end Go.Ev
end
section
namespace Go.Ev
def u8I (x:Int):UInt8:=UInt8.ofNat x.toNat
def ofI (l:List Int):ByteArray:=⟨(l.map u8I).toArray⟩
def Byt (l:List Int):Prop:=∀ x∈l,0≤x∧x<256
theorem u8I_lt {x y:Int} (hx:0≤x∧x<256) (hy:0≤y∧y<256):u8I x<u8I y↔x<y:=by
 unfold u8I
 rw [UInt8.lt_iff_toNat_lt,UInt8.toNat_ofNat',UInt8.toNat_ofNat']
 omega
theorem u8I_eq {x y:Int} (hx:0≤x∧x<256) (hy:0≤y∧y<256):u8I x=u8I y↔x=y:=by
 constructor
 ·intro h
  have:=congrArg UInt8.toNat h
  unfold u8I at this
  rw [UInt8.toNat_ofNat',UInt8.toNat_ofNat'] at this
  omega
 ·rintro rfl; rfl
theorem ofI_size (l:List Int):(ofI l).size=l.length:=by simp [ofI,ByteArray.size]
theorem ofI_get {l:List Int} {i:Nat} (hi:i<l.length):(ofI l)[i]! = u8I l[i]:=by
 rw [getElem!_pos (ofI l) i (by rw [ofI_size]; exact hi)]
 simp [ofI,ByteArray.getElem_eq_getElem_data]
theorem cmp_lt {a b:List Int} (ha:Byt a) (hb:Byt b):Extern.BytealgCompare.cmp (ofI a) (ofI b)<0↔a<b:=by
 unfold Extern.BytealgCompare.cmp
 rw [ofI_size,ofI_size]
 rw [List.lt_iff_exists]
 cases hf:(List.range (min a.length b.length)).find? fun i=>(ofI a)[i]! != (ofI b)[i]! with
 | some i=>
  obtain ⟨h1,h2,h3⟩:=List.find?_range_eq_some.1 hf
  have hi:i<min a.length b.length:=by simpa using h2
  have ia:i<a.length:=by omega
  have ib:i<b.length:=by omega
  have eq:∀ j (hj:j<i),a[j]'(by omega)=b[j]'(by omega):=by
   intro j hj
   have:=h3 j hj
   rw [ofI_get (by omega),ofI_get (by omega)] at this
   have e:u8I (a[j]'(by omega))=u8I (b[j]'(by omega)):=by simpa using this
   exact (u8I_eq (ha _ (List.getElem_mem _)) (hb _ (List.getElem_mem _))).1 e
  have ne:a[i]≠b[i]:=by
   intro h
   rw [ofI_get ia,ofI_get ib,h] at h1
   simp at h1
  simp only [ofI_get ia,ofI_get ib]
  have hlt:=u8I_lt (ha _ (List.getElem_mem ia)) (hb _ (List.getElem_mem ib))
  split
  ·refine ⟨fun _=>.inr ⟨i,ia,ib,eq,hlt.1 ‹_›⟩,fun _=>by decide⟩
  ·rename_i hn
   refine ⟨fun h=>absurd h (by decide),?_⟩
   rintro (⟨h,hl⟩ | ⟨k,ka,kb,hk,hl⟩)
   ·exfalso
    apply ne
    have:=congrArg (fun l=>l[i]?) h
    simp only [List.getElem?_take_of_lt ia,List.getElem?_eq_getElem ia,List.getElem?_eq_getElem ib] at this
    simpa using this
   ·exfalso
    rcases Nat.lt_trichotomy k i with h | h | h
    ·have:=eq k h; omega
    ·subst h; exact hn (hlt.2 hl)
    ·exact ne (hk i h)
 | none=>
  have h0:∀ j (hj:j<min a.length b.length),a[j]'(by omega)=b[j]'(by omega):=by
   intro j hj
   have:=List.find?_eq_none.1 hf j (by simpa using hj)
   rw [ofI_get (by omega),ofI_get (by omega)] at this
   have e:u8I (a[j]'(by omega))=u8I (b[j]'(by omega)):=by simpa using this
   exact (u8I_eq (ha _ (List.getElem_mem _)) (hb _ (List.getElem_mem _))).1 e
  have key:(a=b.take a.length∧a.length<b.length∨∃ i,∃ (h₁:i<a.length) (h₂:i<b.length),(∀ (j:Nat) (hj:j<i),a[j]=b[j])∧a[i]<b[i])↔a.length<b.length:=by
   constructor
   ·rintro (⟨_,h⟩ | ⟨i,ia,ib,hj,hl⟩)
    ·exact h
    ·have:=h0 i (by omega); omega
   ·intro h
    refine .inl ⟨?_,h⟩
    apply List.ext_getElem
    ·simp; omega
    ·intro i h1 h2
     rw [List.getElem_take]
     exact h0 i (by omega)
  rw [key]
  simp only
  split
  ·exact ⟨fun _=>‹_›,fun _=>by decide⟩
  ·split
   ·exact ⟨fun h=>absurd h (by decide),fun h=>absurd h ‹_›⟩
   ·exact ⟨fun h=>absurd h (by decide),fun h=>absurd h ‹_›⟩
theorem cmp_bounds (x y:ByteArray) : -1≤Extern.BytealgCompare.cmp x y∧Extern.BytealgCompare.cmp x y≤1:=by
 unfold Extern.BytealgCompare.cmp
 split <;> (try split) <;> (try split) <;> omega
end Go.Ev
end
section
namespace Go.Ev
def entV (q:Int×Nat):V×V:=(.s (.int .i64 q.1),.ptr q.2 0)
def EntL (L:List (Int×Nat)) (es:List Ent):Prop:=es.map (fun e=>(e.k,e.v))=L.map entV∧(L.map (·.1)).Nodup
def EntOf (g:Int→Option Nat) (es:List Ent):Prop:=∃ L,EntL L es∧∀ x p,g x=some p↔(x,p)∈L
def updG {α:Type} (g:Int→Option α) (x:Int) (v:Option α):Int→Option α:=fun y=>if y=x then v else g y
@[simp] theorem updG_same {α:Type} (g:Int→Option α) (x:Int) (v:Option α):updG g x v x=v:=if_pos rfl
theorem updG_other {α:Type} {g:Int→Option α} {x y:Int} {v:Option α} (h:y≠x):updG g x v y=g y:=if_neg h
theorem find_ent (x:Int):∀ (L:List (Int×Nat)) (es:List Ent) (i:Nat),es.map (fun e=>(e.k,e.v))=L.map entV →
  ∃ r,findKey (.int .i64) (.s (.int .i64 x)) es i=some r∧((r=none∧∀ p,(x,p) ∉ L)∨∃ j p,r=some (i+j,.ptr p 0)∧L[j]? = some (x,p))
 | [],es,i,h=>by
  have:es=[]:=by cases es with
   | nil=>rfl
   | cons=>cases h
  subst this
  exact ⟨none,rfl,.inl ⟨rfl,by simp⟩⟩
 | q::L,es,i,h=>by
  cases es with
  | nil=>cases h
  | cons e es=>
   simp only [List.map_cons,List.cons.injEq,entV,Prod.mk.injEq] at h
   obtain ⟨⟨h1,h2⟩,h3⟩:=h
   obtain ⟨r,r1,r2⟩:=find_ent x L es (i+1) h3
   unfold findKey
   rw [h1,keyNow_i,Option.bind_some]
   by_cases hx:x=q.1
   ·simp only [hx,decide_true,cond_true]
    exact ⟨_,rfl,.inr ⟨0,q.2,by rw [h2]; rfl,rfl⟩⟩
   ·simp only [hx,decide_false,cond_false]
    refine ⟨r,r1,?_⟩
    rcases r2 with ⟨rfl,r2⟩ | ⟨j,p,rfl,r2⟩
    ·refine .inl ⟨rfl,fun p hp=>?_⟩
     rcases List.mem_cons.1 hp with h | h
     ·exact hx (by rw [← h])
     ·exact r2 p h
    ·exact .inr ⟨j+1,p,by rw [show i+1+j=i+(j+1) by omega],r2⟩
theorem modify_ent (x:Int) (p:Nat):∀ (j:Nat) (L:List (Int×Nat)) (es:List Ent),es.map (fun e=>(e.k,e.v))=L.map entV→(modifyAt (.s (.int .i64 x)) (.ptr p 0) j es).map (fun e=>(e.k,e.v))=(L.set j (x,p)).map entV
 | _,[],es,h=>by cases es with
  | nil=>simp [modifyAt]
  | cons=>cases h
 | 0,q::L,es,h=>by cases es with
  | nil=>cases h
  | cons e es=>
   simp only [List.map_cons,List.cons.injEq] at h
   simp [modifyAt,entV,h.2]
 | j+1,q::L,es,h=>by cases es with
  | nil=>cases h
  | cons e es=>
   simp only [List.map_cons,List.cons.injEq] at h
   simp only [modifyAt,List.map_cons,List.set_cons_succ,h.1,modify_ent x p j L es h.2]
theorem map_erase {α β:Type} (f:α→β):∀ (L:List α) (i:Nat),(L.eraseIdx i).map f=(L.map f).eraseIdx i
 | [],_=>rfl
 | _::_,0=>rfl
 | a::L,i+1=>by simp [List.eraseIdx,map_erase f L i]
theorem ent_uniq {L:List (Int×Nat)} (h:(L.map (·.1)).Nodup) {i j:Nat} {x:Int} {p q:Nat} (hi:L[i]? = some (x,p)) (hj:L[j]? = some (x,q)):i=j:=by
 have hl:i<(L.map (·.1)).length:=by
  have:=(List.getElem?_eq_some_iff.1 hi).1
  simpa using this
 exact (List.getElem?_inj hl h).1 (by simp [hi,hj])
theorem set_keys {L:List (Int×Nat)} {j:Nat} {x:Int} {p q:Nat} (hj:L[j]? = some (x,p)):(L.set j (x,q)).map (·.1)=L.map (·.1):=by
 apply List.ext_getElem?
 intro i
 simp only [List.getElem?_map,List.getElem?_set]
 by_cases h:j=i
 ·subst h
  have:=(List.getElem?_eq_some_iff.1 hj).1
  have e:=(List.getElem?_eq_some_iff.1 hj).2
  simp [this,e]
 ·simp [h]
theorem mem_at {α:Type} {L:List α} {a:α}:a∈L↔∃ i:Nat,L[i]? = some a:=List.mem_iff_getElem?
theorem look_ent {g:Int→Option Nat} {es:List Ent} {ck b:Nat} {h:Heap} (z:V) (hb:h.get b=some (.map es ck)) (H:EntOf g es) (x:Int) :
  lookupW (.int .i64) z h (.map b) (.s (.int .i64 x)) true=some (match g x with | some p=>.tup [.ptr p 0,.s (.bool true)] | none=>.tup [z,.s (.bool false)]):=by
 obtain ⟨L,⟨h1,h2⟩,h3⟩:=H
 obtain ⟨r,r1,r2⟩:=find_ent x L es 0 h1
 have hm:mapAt h (.map b)=some (es,ck):=by simp [mapAt,hb]
 rcases r2 with ⟨rfl,r2⟩ | ⟨j,p,rfl,r2⟩
 ·have:g x=none:=by
   cases hg:g x with
   | none=>rfl
   | some p=>exact absurd ((h3 x p).1 hg) (r2 p)
  simp [lookupW,hm,r1,this]
 ·have:g x=some p:=(h3 x p).2 (mem_at.2 ⟨j,r2⟩)
  simp [lookupW,hm,r1,this]
theorem update_ent {g:Int→Option Nat} {es:List Ent} {ck b:Nat} {h:Heap} (hb:h.get b=some (.map es ck)) (H:EntOf g es) (x:Int) (p:Nat) :
  ∃ es' ck',mapUpdateW (.int .i64) h b (.s (.int .i64 x)) (.ptr p 0)=some (h.set b (.map es' ck'))∧EntOf (updG g x (some p)) es':=by
 obtain ⟨L,⟨h1,h2⟩,h3⟩:=H
 obtain ⟨r,r1,r2⟩:=find_ent x L es 0 h1
 have hm:mapOwn h b=some (es,ck):=by simp [mapOwn,hb]
 rcases r2 with ⟨rfl,r2⟩ | ⟨j,q,rfl,r2⟩
 ·refine ⟨_,_,by simp only [mapUpdateW,hm,Option.bind_some,r1]; rfl,L++[(x,p)],⟨by simp [h1,entV],?_⟩,fun y q=>?_⟩
  ·rw [List.map_append,List.nodup_append]
   refine ⟨h2,by simp,?_⟩
   intro a ha c hc
   simp at hc
   subst hc
   rintro rfl
   obtain ⟨⟨a',p'⟩,hp,rfl⟩:=List.mem_map.1 ha
   exact r2 p' hp
  ·unfold updG
   simp only [List.mem_append,List.mem_singleton,Prod.mk.injEq]
   by_cases hy:y=x
   ·subst hy
    simp only [if_true,true_and,Option.some.injEq]
    exact ⟨fun h=>.inr h.symm,fun h=>by rcases h with h | h; exact absurd h (r2 q); exact h.symm⟩
   ·simp [hy,h3]
 ·refine ⟨_,_,by simp only [mapUpdateW,hm,Option.bind_some,r1]; rfl,L.set j (x,p),⟨?_,by rw [set_keys r2]; exact h2⟩,fun y q'=>?_⟩
  ·rw [Nat.zero_add]; exact modify_ent x p j L es h1
  ·have hj:=(List.getElem?_eq_some_iff.1 r2).1
   unfold updG
   rw [mem_at]
   by_cases hy:y=x
   ·subst hy
    simp only [if_true,Option.some.injEq]
    constructor
    ·rintro rfl; exact ⟨j,by simp [List.getElem?_set,hj]⟩
    ·rintro ⟨i,hi⟩
     rw [List.getElem?_set] at hi
     by_cases hij:j=i
     ·subst hij; simp [hj] at hi; exact hi
     ·rw [if_neg hij] at hi; exact absurd (ent_uniq h2 r2 hi) hij
   ·rw [if_neg hy,h3,mem_at]
    constructor
    ·rintro ⟨i,hi⟩
     refine ⟨i,?_⟩
     rw [List.getElem?_set,if_neg]
     ·exact hi
     ·rintro rfl; rw [r2] at hi; cases hi; exact hy rfl
    ·rintro ⟨i,hi⟩
     rw [List.getElem?_set] at hi
     by_cases hij:j=i
     ·subst hij; simp [hj] at hi; exact absurd hi.1.symm hy
     ·rw [if_neg hij] at hi; exact ⟨i,hi⟩
theorem delete_ent {g:Int→Option Nat} {es:List Ent} {ck b:Nat} {h:Heap} (hb:h.get b=some (.map es ck)) (H:EntOf g es) (x:Int) :
  ∃ es' ck',mapDeleteW (.int .i64) h b (.s (.int .i64 x))=some (h.set b (.map es' ck'))∧EntOf (updG g x none) es':=by
 obtain ⟨L,⟨h1,h2⟩,h3⟩:=H
 obtain ⟨r,r1,r2⟩:=find_ent x L es 0 h1
 have hm:mapOwn h b=some (es,ck):=by simp [mapOwn,hb]
 rcases r2 with ⟨rfl,r2⟩ | ⟨j,q,rfl,r2⟩
 ·refine ⟨_,_,by simp only [mapDeleteW,hm,Option.bind_some,r1]; rfl,L,⟨h1,h2⟩,fun y q=>?_⟩
  unfold updG
  by_cases hy:y=x
  ·subst hy; simp [r2]
  ·simp [hy,h3]
 ·refine ⟨_,_,by simp only [mapDeleteW,hm,Option.bind_some,r1]; rfl,L.eraseIdx j,⟨?_,?_⟩,fun y q'=>?_⟩
  ·rw [Nat.zero_add,map_erase,h1,map_erase]
  ·rw [map_erase]; exact h2.sublist (List.eraseIdx_sublist _ _)
  ·unfold updG
   rw [List.mem_eraseIdx_iff_getElem?]
   by_cases hy:y=x
   ·subst hy
    simp only [if_true]
    refine ⟨fun h=>(by cases h),fun hh=>?_⟩
    obtain ⟨i,hi,hl⟩:=hh
    exact absurd (ent_uniq h2 r2 hl).symm hi
   ·rw [if_neg hy,h3,mem_at]
    constructor
    ·rintro ⟨i,hi⟩
     exact ⟨i,by rintro rfl; rw [r2] at hi; cases hi; exact hy rfl,hi⟩
    ·rintro ⟨i,_,hi⟩
     exact ⟨i,hi⟩
theorem ent_nil:EntOf (fun _=>none) []:=⟨[],⟨rfl,.nil⟩,by simp⟩
end Go.Ev
end
