import Derived.Test.YtaigdhieijndgaaGreatRI2
import Derived.Test.YtaigdhieijndgaaGreatEQ13
import Derived.Test.YtaigdhieijndgaaGreatEQ14
section
namespace Go.Ev
open Proofs
set_option maxRecDepth 20000
def BytesAt (h:Heap) (b:Nat) (v:V) (l:List Int):Prop:=SliceAt h b v 1 l.length (bytesV' l)
theorem bytes_take (l:List Int):(bytesV' l).take l.length=bytesV' l:=List.take_of_length_le (by simp)
theorem BytesAt.of {h h':Heap} {b:Nat} {v:V} {l:List Int} (H:BytesAt h b v l) (e:h'.get b=h.get b):BytesAt h' b v l:=SliceAt.of H e
theorem BytesAt.len {h:Heap} {b:Nat} {v:V} {l:List Int} (H:BytesAt h b v l) (h':Heap):lenV CC h' 30 v=some (.s (.int .i64 l.length)):=by
 rcases H with ⟨rfl,h2,_⟩ | ⟨o,c,op,A,es,rfl,_⟩
 ·have:l=[]:=List.length_eq_zero_iff.1 h2
  subst this; simp
 ·simp
theorem BytesAt.ix {h:Heap} {b:Nat} {v:V} {l:List Int} (H:BytesAt h b v l) {i:Nat} (hi:i<l.length):∃ p,indexAddr CC 30 v (.s (.int .i64 i))=some (.ptr b p)∧(cellsAt h b).bind (fun c=>c.1.get p)=some (.s (.int .u8 l[i])):=by
 rcases H with ⟨rfl,h2,_⟩ | ⟨o,c,op,A,es,rfl,h2,h3,h4⟩
 ·omega
 ·refine ⟨o+i,by simp [asNat_int,blt_dec,hi],?_⟩
  rw [h2]
  simp
  have:((A.drop o).take (l.length*1))[i]? = (bytesV' l)[i]?:=by rw [h3]
  rw [List.getElem?_take,if_pos (by omega),List.getElem?_drop] at this
  rw [this]
  simp [bytesV',hi]
end Go.Ev
end
section
namespace Go.Ev
open Proofs
set_option maxRecDepth 20000
theorem BytesAt.row {h:Heap} {b:Nat} {v:V} {l:List Int} (H:BytesAt h b v l):Row h 1 l.length (bytesV' l) v:=SliceAt.row H
end Go.Ev
end
section
namespace Go.Ev
open Proofs
set_option maxRecDepth 20000
theorem toBytes_ok:∀ l:List Int,toBytes (bytesV' l)=some (l.map u8I)
 | []=>rfl
 | x::l=>by
  have:=toBytes_ok l
  unfold bytesV' at this ⊢
  simp only [List.map_cons,toBytes,this,Option.bind_some]
  rfl
theorem bytesAt_ok {h:Heap} {b:Nat} {v:V} {l:List Int} (H:BytesAt h b v l):bytesAt h v=some (ofI l):=by
 rcases H with ⟨rfl,h1,h2⟩ | ⟨o,c,op,A,es,rfl,h1,h2,h3⟩
 ·have:l=[]:=List.length_eq_zero_iff.1 h1
  subst this
  rfl
 ·have hr:Row h 1 l.length (bytesV' l) (.slice b o l.length l.length false):=SliceAt.row (.inr ⟨o,l.length,false,A,es,rfl,h1,h2,h3⟩)
  obtain ⟨r,r1,r2,r3⟩:=hr.first (Nat.le_refl _)
  have r2':r.toList=bytesV' l:=by rw [r2]; exact List.take_of_length_le (by simp [bytesV'])
  simp only [bytesAt,r1,Option.bind_some,r2',toBytes_ok]
  rfl
theorem compare_ok {h:Heap} {n b c:Nat} {v w:V} {kv kw:List Int} (hv:BytesAt h b v kv) (hw:BytesAt h c w kw) (bv:Byt kv) (bw:Byt kw) {K:V→Heap→Nat→Prop}
  (H:∀ x:Int,(x<0↔kv<kw)→-1≤x→x≤1→K (.s (.int .i64 x)) h n):callV CC (.func (.func 112) [] []) [v,w] h n K:=by
 rw [callV_func (by kernel_rfl)]
 refine F112_call fun hlt=>?_
 rw [F112_eq]
 have hx:CC.X.get 161=some true:=by kernel_rfl
 unfold callV
 simp only [hx,List.nil_append,List.append_nil,compareB,bytesAt_ok hv,bytesAt_ok hw,Option.bind_some]
 have hb:=cmp_bounds (ofI kv) (ofI kw)
 exact H _ (cmp_lt bv bw) hb.1 hb.2
theorem splice_one (A:List V) (o:Nat) (x:V) (h:o<A.length):splice A o [x]=A.set o x:=by
 rw [List.set_eq_take_append_cons_drop,if_pos h]
 simp [splice]
def Elem (h0:Heap) (n0 a:Nat) (f:V→List Int) (v:V):Prop:=∃ b,b<n0∧b≠a∧BytesAt h0 b v (f v)∧Byt (f v)
structure Srt (h0:Heap) (n0 a N:Nat) (f:V→List Int) (L:List V) (h:Heap):Prop where
 get:h.get a=some (.cells (.lst L) 1)
 len:N≤L.length
 same:∀ b,b<n0→b≠a→h.get b=h0.get b
 key:∀ p v,p<N→L[p]? = some v→Elem h0 n0 a f v
section
variable {h0:Heap} {n0 a N:Nat} {f:V→List Int} {L:List V} {h:Heap}
theorem Srt.at (S:Srt h0 n0 a N f L h) {i:Nat} (hi:i<N):∃ v b,L[i]? = some v∧b<n0∧b≠a∧BytesAt h b v (f v)∧Byt (f v)∧normV v=v∧V.cells v=some (.one v)∧f v=kx f L i∧v=L.getD i default:=by
 have hl:=S.len
 have e:=List.getElem?_eq_getElem (show i<L.length by omega)
 obtain ⟨b,b1,b2,b3,b4⟩:=S.key i _ hi e
 have hn:normV L[i]=L[i]∧V.cells L[i]=some (.one L[i]):=by
  generalize L[i]=v at b3
  generalize f v=l at b3
  rcases b3 with ⟨rfl,_⟩ | ⟨_,_,_,_,_,rfl,_⟩ <;> exact ⟨rfl,rfl⟩
 exact ⟨L[i],b,e,b1,b2,b3.of (S.same b b1 b2),b4,hn.1,hn.2,by simp [kx,List.getD_eq_getElem?_getD,e],by simp [List.getD_eq_getElem?_getD,e]⟩
theorem Srt.of (S:Srt h0 n0 a N f L h) {h':Heap} (e:∀ b,b<n0∨b=a→h'.get b=h.get b):Srt h0 n0 a N f L h':=
 ⟨by rw [e a (.inr rfl)]; exact S.get,S.len,fun b hb hn=>by rw [e b (.inl hb)]; exact S.same b hb hn,S.key⟩
theorem Srt.perm (S:Srt h0 n0 a N f L h) {L':List V} (P:PermIn 0 N L L') {h':Heap} (hg:h'.get a=some (.cells (.lst L') 1)) (e:∀ b,b<n0→b≠a→h'.get b=h.get b):Srt h0 n0 a N f L' h':=
 ⟨hg,by rw [P.len]; exact S.len,fun b hb hn=>by rw [e b hb hn]; exact S.same b hb hn,fun p v hp hv=>P.all (P:=fun v=>Elem h0 n0 a f v) (fun q w _ h2 h3=>S.key q w h2 h3) p v (by omega) hp hv⟩
theorem Srt.swap (S:Srt h0 n0 a N f L h) {i j:Nat} (hi:i<N) (hj:j<N) {v w:V} (hv:L[i]? = some v) (hw:L[j]? = some w) :
  ∃ h1 h2,storeCells h a i (.one w)=some h1∧storeCells h1 a j (.one v)=some h2∧Srt h0 n0 a N f (Go.Ev.swap L i j) h2∧(∀ b,b≠a→h2.get b=h.get b):=by
 have hl:=S.len
 refine ⟨h.set a (.cells (.lst (splice L i [w])) 1),(h.set a (.cells (.lst (splice L i [w])) 1)).set a (.cells (.lst (splice (splice L i [w]) j [v])) 1),storeCells_lst S.get (by show i+1≤L.length; omega),storeCells_lst (by rw [Tree.get_set,if_pos rfl]) (by show j+1≤(splice L i [w]).length; rw [splice_length (by simp; omega)]; omega),?_,?_⟩
 ·refine S.perm (PermIn.swap L (by omega) (by omega) (Nat.zero_le _) hi (Nat.zero_le _) hj) ?_ (fun b _ hn=>by rw [Tree.get_set,if_neg hn,Tree.get_set,if_neg hn])
  rw [Tree.get_set,if_pos rfl]
  have e1:splice L i [w]=L.set i w:=splice_one L i w (by omega)
  have e2:splice (L.set i w) j [v]=(L.set i w).set j v:=splice_one _ j v (by simp; omega)
  rw [e1,e2]
  simp [Go.Ev.swap,List.getD_eq_getElem?_getD,hv,hw]
 ·intro b hn
  rw [Tree.get_set,if_neg hn,Tree.get_set,if_neg hn]
end
abbrev cmpF:V:=.func (.func 112) [] []
end Go.Ev
end
section
namespace Go.Ev
open Proofs
set_option maxRecDepth 20000
section
variable {h0:Heap} {n0 a N:Nat} {f:V→List Int} {op:Bool} {c:Nat}
theorem ins_inner {x y i:Nat} {L0:List V} (hN:N≤1000000000000) (hx:x≤i) (hiy:i<y) (hy:y≤N) {Q:X→St→Prop} {m0:Nat} (hm0:n0≤m0)
  (hQ:∀ ex t9 L h n s,(ex=1∨ex=2)→F198_L100100100 (.slice a 0 N c op) (.s (.int .i64 (x:Nat))) (.s (.int .i64 (y:Nat))) cmpF (.s (.int .i64 (i:Nat))) t9 h n s→Srt h0 n0 a N f L h→m0≤n→PermIn x (i+1) L0 L→SortedIn f x (i+1) L→Q (.exit ex) s) :
  ∀ m s,(∃ j L h n,m=j∧x≤j∧j≤i∧F198_L100100100 (.slice a 0 N c op) (.s (.int .i64 (x:Nat))) (.s (.int .i64 (y:Nat))) cmpF (.s (.int .i64 (i:Nat))) (.s (.int .i64 (j:Nat))) h n s∧Srt h0 n0 a N f L h∧m0≤n∧PermIn x (i+1) L0 L ∧
   ∀ p q,x≤p→p<q→q≤i→q≠j→kx f L p≤kx f L q) →
   LoopK CC none (subC [1,0,0,1,0,0,1,0,0] (bodyOf Tryz.f198)) s Q:=by
 refine loopH CCok _ ?_
 rintro m s ⟨j,L,h,n,hm,h1,h2,hs,S,hn,hP,hI⟩ hlt
 obtain ⟨g,rfl⟩:=hs
 rw [F198_b100100100]
 by_cases hj:x<j
 ·obtain ⟨k,hk⟩:∃ k,k=j-1:=⟨_,rfl⟩
  have e1:wrapF .i64 ((j:Int)-1)=((k:Nat):Int):=by rw [wrapF_i64 (by omega) (by omega)]; omega
  obtain ⟨v,b,v1,v2,v3,v4,v5,v6,v7,v8,v9⟩:=S.at (show j<N by omega)
  obtain ⟨w,d,w1,w2,w3,w4,w5,w6,w7,w8,w9⟩:=S.at (show k<N by omega)
  have jN:Nat.blt j N=true:=by rw [Nat.blt_eq]; omega
  have kN:Nat.blt k N=true:=by rw [Nat.blt_eq]; omega
  simp [hj,e1,jN,kN,cellsAt,S.get,v1,w1,v6,w6]
  refine compare_ok v4 w4 v5 w5 ?_
  intro z hz z1 z2
  rw [v8,w8] at hz
  by_cases hz0:z<0
  ·obtain ⟨ha,hb,s1,s2,S',_⟩:=S.swap (i:=j) (j:=k) (by omega) (by omega) v1 w1
   have hlt':=hz.1 hz0
   have P2:=PermIn.swap L (x:=x) (y:=i+1) (i:=j) (j:=k) (by have:=S.len; omega) (by have:=S.len; omega) (by omega) (by omega) (by omega) (by omega)
   simp [hz0,S.get,v1,w1,v6,w6,v7,w7,s1,s2,roundQ]
   refine ⟨k,by omega,hb,fun hok b o hb'=>⟨o,hb',hok b o hb'⟩,by omega,by omega,_,_,_,F198_L100100100_of,S',by omega,hP.trans P2,?_⟩
   intro p q p1 p2 p3 p4
   have hl:=S.len
   rw [kx_swap f L (by omega) (by omega),kx_swap f L (by omega) (by omega)]
   rw [if_neg p4]
   by_cases q1:q=j
   ·rw [if_pos q1]
    by_cases q2:p=k
    ·rw [if_pos q2]; exact ltI_le hlt'
    ·rw [if_neg q2,if_neg (by omega)]
     exact hI p k p1 (by omega) (by omega) (by omega)
   ·rw [if_neg q1]
    by_cases q2:p=k
    ·rw [if_pos q2]; exact hI j q (by omega) (by omega) p3 q1
    ·rw [if_neg q2]
     by_cases q3:p=j
     ·rw [if_pos q3]; exact hI k q (by omega) (by omega) p3 q1
     ·rw [if_neg q3]; exact hI p q p1 p2 p3 q1
  ·have hz1:kx f L k≤kx f L j:=notI.1 fun h=>hz0 (hz.2 h)
   simp [hz0,roundQ]
   refine hQ _ _ L h _ _ (.inr rfl) F198_L100100100_of S (by omega) hP fun p q p1 p2 p3=>?_
   by_cases q1:q=j
   ·subst q1
    by_cases q2:p=k
    ·rw [q2]; exact hz1
    ·exact leI_trans (hI p k p1 (by omega) (by omega) (by omega)) hz1
   ·exact hI p q p1 p2 (by omega) q1
 ·simp [hj,roundQ]
  refine hQ _ _ L h _ _ (.inr rfl) F198_L100100100_of S (by omega) hP fun p q p1 p2 p3=>hI p q p1 p2 (by omega) (by omega)
theorem ins_outer {x y:Nat} {L0:List V} (hN:N≤1000000000000) (hy:y≤N) {Q:X→St→Prop} {m0:Nat} (hm0:n0≤m0)
  (hQ:∀ t8 L h n s,F198_L100 (.slice a 0 N c op) (.s (.int .i64 (x:Nat))) (.s (.int .i64 (y:Nat))) cmpF t8 h n s→Srt h0 n0 a N f L h→m0≤n→PermIn x y L0 L→SortedIn f x y L→Q (.exit 0) s) :
  ∀ m s,(∃ i L h n,m=y-i∧x+1≤i∧F198_L100 (.slice a 0 N c op) (.s (.int .i64 (x:Nat))) (.s (.int .i64 (y:Nat))) cmpF (.s (.int .i64 (i:Nat))) h n s∧Srt h0 n0 a N f L h∧m0≤n∧PermIn x y L0 L∧(i≤y∨i=x+1)∧SortedIn f x i L) →
   LoopK CC none (subC [1,0,0] (bodyOf Tryz.f198)) s Q:=by
 refine loopH CCok _ ?_
 rintro m s ⟨i,L,h,n,hm,h1,hs,S,hn,hP,hi,hI⟩ hlt
 obtain ⟨g,rfl⟩:=hs
 rw [F198_b100]
 by_cases hiy:i<y
 ·have e1:wrapF .i64 ((i:Int)+1)=((i+1:Nat):Int):=by rw [wrapF_i64 (by omega) (by omega)]; rfl
  simp [hiy]
  refine ins_inner (x:=x) (y:=y) (i:=i) (L0:=L) hN (by omega) hiy hy (m0:=n) (by omega) ?_ _ _ ⟨i,L,h,n,rfl,by omega,by omega,F198_L100100100_of,S,by omega,PermIn.refl _ _ _,fun p q p1 p2 p3 p4=>hI p q p1 p2 (by omega)⟩
  intro ex t9 L' h' n' s hex hs' S' hn' hP' hI'
  obtain ⟨g',rfl⟩:=hs'
  rcases hex with rfl | rfl
  ·rw [F198_r100100100_1]
   simp [roundQ]
   exact ⟨y-(i+1),by omega,h',fun hok b o hb=>⟨o,hb,hok b o hb⟩,i+1,rfl,by omega,L',h',n',by rw [e1]; exact F198_L100_of,S',by omega,hP.trans (hP'.mono (by omega) (by omega)),.inl (by omega),hI'⟩
  ·rw [F198_r100100100_2]
   simp [roundQ]
   exact ⟨y-(i+1),by omega,h',fun hok b o hb=>⟨o,hb,hok b o hb⟩,i+1,rfl,by omega,L',h',n',by rw [e1]; exact F198_L100_of,S',by omega,hP.trans (hP'.mono (by omega) (by omega)),.inl (by omega),hI'⟩
 ·simp [hiy,roundQ]
  exact hQ _ L h _ _ F198_L100_of S (by omega) hP fun p q p1 p2 p3=>hI p q p1 p2 (by omega)
def SortP (h0:Heap) (n0 a N:Nat) (f:V→List Int) (x y:Nat) (L:List V) (h':Heap):Prop:=∃ L',Srt h0 n0 a N f L' h'∧PermIn x y L L'∧SortedIn f x y L'
theorem insertion_ok {x y:Nat} {L:List V} {h:Heap} {n:Nat} (hN:N≤1000000000000) (hx:x≤1000000000000) (hy:y≤N) (S:Srt h0 n0 a N f L h) (hn:n0≤n) :
  CallK CC 198 [.slice a 0 N c op,.s (.int .i64 (x:Nat)),.s (.int .i64 (y:Nat)),cmpF] h n fun _ h' n'=>SortP h0 n0 a N f x y L h':=by
 refine F198_call fun hlt=>?_
 rw [F198_eq]
 have e1:wrapF .i64 ((x:Int)+1)=((x+1:Nat):Int):=by rw [wrapF_i64 (by omega) (by omega)]; rfl
 simp
 refine ins_outer (x:=x) (y:=y) (L0:=L) hN hy (m0:=n) hn ?_ _ _ ⟨x+1,L,h,n,rfl,by omega,by rw [e1]; exact F198_L100_of,S,by omega,PermIn.refl _ _ _,.inr rfl,fun p q p1 p2 p3=>by omega⟩
 intro t8 L' h' n' s hs S' hn' hP hI
 obtain ⟨g,rfl⟩:=hs
 rw [F198_r100_0]
 exact ⟨L',S',hP,hI⟩
end
end Go.Ev
end
section
namespace Go.Ev
open Proofs
set_option maxRecDepth 20000
section
variable {h0:Heap} {n0 a N:Nat} {f:V→List Int} {op:Bool} {c:Nat}
def HeapFrom (f:V→List Int) (x lo hi:Nat) (L:List V):Prop:=∀ i d,lo≤i→(d=2*i+1∨d=2*i+2)→d<hi→kx f L (x+d)≤kx f L (x+i)
def SiftI (f:V→List Int) (x lo hi r:Nat) (L:List V):Prop:=
 (∀ i d,lo≤i→i≠r→(d=2*i+1∨d=2*i+2)→d<hi→kx f L (x+d)≤kx f L (x+i)) ∧
 ∀ p d,lo≤p→(r=2*p+1∨r=2*p+2)→(d=2*r+1∨d=2*r+2)→d<hi→kx f L (x+d)≤kx f L (x+p)
theorem SiftI.done {x lo hi r:Nat} {L:List V} (I:SiftI f x lo hi r L) (H:∀ d,(d=2*r+1∨d=2*r+2)→d<hi→kx f L (x+d)≤kx f L (x+r)):HeapFrom f x lo hi L:=by
 intro i d h1 h2 h3
 by_cases e:i=r
 ·subst e; exact H d h2 h3
 ·exact I.1 i d h1 e h2 h3
theorem SiftI.step {x lo hi r ch:Nat} {L:List V} (I:SiftI f x lo hi r L) (hr:lo≤r) (hl:x+hi≤L.length) (hc:ch=2*r+1∨ch=2*r+2) (hch:ch<hi)
  (hlt:kx f L (x+r)<kx f L (x+ch)) (hmax:∀ d,(d=2*r+1∨d=2*r+2)→d<hi→kx f L (x+d)≤kx f L (x+ch)):SiftI f x lo hi ch (swap L (x+r) (x+ch)):=by
 have ks:∀ p,kx f (swap L (x+r) (x+ch)) (x+p)=if p=ch then kx f L (x+r) else if p=r then kx f L (x+ch) else kx f L (x+p):=by
  intro p
  rw [kx_swap f L (by omega) (by omega)]
  by_cases e1:p=ch
  ·rw [if_pos e1,if_pos (by omega)]
  ·rw [if_neg e1,if_neg (by omega)]
   by_cases e2:p=r
   ·rw [if_pos e2,if_pos (by omega)]
   ·rw [if_neg e2,if_neg (by omega)]
 refine ⟨fun i d h1 h2 h3 h4=>?_,fun p d h1 h2 h3 h4=>?_⟩
 ·rw [ks,ks,if_neg h2]
  by_cases e1:i=r
  ·rw [if_pos e1]
   subst e1
   by_cases e2:d=ch
   ·rw [if_pos e2]; exact ltI_le hlt
   ·rw [if_neg e2,if_neg (by omega)]; exact hmax d h3 h4
  ·rw [if_neg e1]
   have e2:d≠ch:=by omega
   rw [if_neg e2]
   by_cases e3:d=r
   ·rw [if_pos e3]; exact I.2 i ch h1 (by omega) hc hch
   ·rw [if_neg e3]; exact I.1 i d h1 e1 h3 h4
 ·have ep:p=r:=by omega
  subst ep
  rw [ks,ks,if_neg (by omega),if_neg (by omega),if_neg (by omega),if_pos rfl]
  exact I.1 ch d (by omega) (by omega) h3 h4
def SiftP (h0:Heap) (n0 a N:Nat) (f:V→List Int) (x lo hi:Nat) (L:List V) (h':Heap):Prop:=∃ L',Srt h0 n0 a N f L' h'∧PermIn x (x+hi) L L'∧HeapFrom f x lo hi L'
theorem sift_loop {x lo hi:Nat} {L0:List V} (hN:N≤1000000000000) (hh:x+hi≤N) {Q:X→St→Prop} {m0:Nat} (hm0:n0≤m0)
  (hQ0:∀ t10 h n s,F221_L100 (.slice a 0 N c op) (.s (.int .i64 (hi:Nat))) (.s (.int .i64 (x:Nat))) cmpF t10 h n s→SiftP h0 n0 a N f x lo hi L0 h→Q (.exit 0) s)
  (hQ1:∀ h n (L:List V),SiftP h0 n0 a N f x lo hi L0 h→Q .ret ⟨mkTm L,h,n,[]⟩) :
  ∀ m s,(∃ r L h n,m=hi-r∧lo≤r∧(r<hi∨r=lo)∧r≤1000000000000∧F221_L100 (.slice a 0 N c op) (.s (.int .i64 (hi:Nat))) (.s (.int .i64 (x:Nat))) cmpF (.s (.int .i64 (r:Nat))) h n s∧Srt h0 n0 a N f L h∧m0≤n∧PermIn x (x+hi) L0 L∧SiftI f x lo hi r L) →
   LoopK CC none (subC [1,0,0] (bodyOf Tryz.f221)) s Q:=by
 refine loopH CCok _ ?_
 rintro m s ⟨r,L,h,n,hm,h1,hr,hrb,hs,S,hn,hP,hI⟩ hlt
 obtain ⟨g,rfl⟩:=hs
 rw [F221_b100]
 obtain ⟨c1,hc1⟩:∃ c1,c1=2*r+1:=⟨_,rfl⟩
 obtain ⟨r2,hr2⟩:∃ r2,r2=2*r:=⟨_,rfl⟩
 have e0:wrapF .i64 (2*(r:Int))=(r2:Int):=by rw [wrapF_i64 (by omega) (by omega)]; omega
 have e1:wrapF .i64 ((r2:Int)+1)=(c1:Int):=by rw [wrapF_i64 (by omega) (by omega)]; omega
 by_cases hc:c1<hi
 ·have hci:¬ (hi:Int)≤(c1:Int):=by omega
  obtain ⟨c2,hc2⟩:∃ c2,c2=c1+1:=⟨_,rfl⟩
  have e2:wrapF .i64 ((c1:Int)+1)=(c2:Int):=by rw [wrapF_i64 (by omega) (by omega)]; omega
  have hl:=S.len
  obtain ⟨pr,hpr⟩:∃ pr,pr=x+r:=⟨_,rfl⟩
  obtain ⟨p1,hp1⟩:∃ p1,p1=x+c1:=⟨_,rfl⟩
  have er:wrapF .i64 ((x:Int)+(r:Int))=(pr:Int):=by rw [wrapF_i64 (by omega) (by omega)]; omega
  have ep1:wrapF .i64 ((x:Int)+(c1:Int))=(p1:Int):=by rw [wrapF_i64 (by omega) (by omega)]; omega
  obtain ⟨u,bu,u1,u2,u3,u4,u5,u6,u7,u8,u9⟩:=S.at (show pr<N by omega)
  obtain ⟨v,bv,v1,v2,v3,v4,v5,v6,v7,v8,v9⟩:=S.at (show p1<N by omega)
  have rN:Nat.blt pr N=true:=by rw [Nat.blt_eq]; omega
  have p1N:Nat.blt p1 N=true:=by rw [Nat.blt_eq]; omega
  by_cases hc':c2<hi
  ·obtain ⟨p2,hp2⟩:∃ p2,p2=x+c2:=⟨_,rfl⟩
   have ep2:wrapF .i64 ((p1:Int)+1)=(p2:Int):=by rw [wrapF_i64 (by omega) (by omega)]; omega
   have ep2':wrapF .i64 ((x:Int)+(c2:Int))=(p2:Int):=by rw [wrapF_i64 (by omega) (by omega)]; omega
   have p2N:Nat.blt p2 N=true:=by rw [Nat.blt_eq]; omega
   obtain ⟨w,bw,w1,w2,w3,w4,w5,w6,w7,w8,w9⟩:=S.at (show p2<N by omega)
   simp [e0,e1,e2,hci,hc',er,ep1,ep2,rN,p1N,p2N,cellsAt,S.get,u1,v1,w1,u6,v6,w6]
   refine compare_ok v4 w4 v5 w5 ?_
   intro z hz z1 z2
   rw [v8,w8] at hz
   by_cases hz0:z<0
   ·simp [hz0,ep2',p2N,cellsAt,S.get,u1,u6,w1,w6]
    have hm:∀ d,(d=2*r+1∨d=2*r+2)→d<hi→kx f L (x+d)≤kx f L (x+c2):=by
     intro d hd _
     rcases hd with e | e
     ·rw [show d=c1 by omega,← hp1,← hp2]; exact ltI_le (hz.1 hz0)
     ·rw [show d=c2 by omega]; exact leI_refl _
    refine compare_ok u4 w4 u5 w5 ?_
    intro t ht t1 t2
    rw [u8,w8] at ht
    by_cases ht0:t<0
    ·obtain ⟨ha,hb,s1,s2,S',_⟩:=S.swap (i:=pr) (j:=p2) (by omega) (by omega) u1 w1
     simp [ht0,S.get,u1,w1,u6,w6,u7,w7,s1,s2,roundQ]
     refine ⟨hi-c2,by omega,hb,fun hok b o hb'=>⟨o,hb',hok b o hb'⟩,c2,rfl,by omega,.inl hc',by omega,_,_,_,F221_L100_of,S',by omega,hP.trans (PermIn.swap L (by omega) (by omega) (by omega) (by omega) (by omega) (by omega)),?_⟩
     rw [hpr,hp2]
     exact hI.step h1 (by omega) (.inr (by omega)) hc' (by rw [← hpr,← hp2]; exact ht.1 ht0) hm
    ·simp [ht0,roundQ]
     exact hQ1 _ _ _ ⟨L,S,hP,hI.done fun d hd hd'=>leI_trans (hm d hd hd') (notI.1 fun hh=>ht0 (ht.2 (by rw [hpr,hp2]; exact hh)))⟩
   ·simp [hz0,S.get,u1,u6,v1,v6]
    have hm:∀ d,(d=2*r+1∨d=2*r+2)→d<hi→kx f L (x+d)≤kx f L (x+c1):=by
     intro d hd _
     rcases hd with e | e
     ·rw [show d=c1 by omega]; exact leI_refl _
     ·rw [show d=c2 by omega,← hp1,← hp2]; exact notI.1 fun hh=>hz0 (hz.2 hh)
    refine compare_ok u4 v4 u5 v5 ?_
    intro t ht t1 t2
    rw [u8,v8] at ht
    by_cases ht0:t<0
    ·obtain ⟨ha,hb,s1,s2,S',_⟩:=S.swap (i:=pr) (j:=p1) (by omega) (by omega) u1 v1
     simp [ht0,S.get,u1,v1,u6,v6,u7,v7,s1,s2,roundQ]
     refine ⟨hi-c1,by omega,hb,fun hok b o hb'=>⟨o,hb',hok b o hb'⟩,c1,rfl,by omega,.inl hc,by omega,_,_,_,F221_L100_of,S',by omega,hP.trans (PermIn.swap L (by omega) (by omega) (by omega) (by omega) (by omega) (by omega)),?_⟩
     rw [hpr,hp1]
     exact hI.step h1 (by omega) (.inl (by omega)) hc (by rw [← hpr,← hp1]; exact ht.1 ht0) hm
    ·simp [ht0,roundQ]
     exact hQ1 _ _ _ ⟨L,S,hP,hI.done fun d hd hd'=>leI_trans (hm d hd hd') (notI.1 fun hh=>ht0 (ht.2 (by rw [hpr,hp1]; exact hh)))⟩
  ·simp [e0,e1,e2,hci,hc',er,ep1,rN,p1N,cellsAt,S.get,u1,u6,v1,v6]
   have hm:∀ d,(d=2*r+1∨d=2*r+2)→d<hi→kx f L (x+d)≤kx f L (x+c1):=by
    intro d hd _
    rw [show d=c1 by omega]; exact leI_refl _
   refine compare_ok u4 v4 u5 v5 ?_
   intro t ht t1 t2
   rw [u8,v8] at ht
   by_cases ht0:t<0
   ·obtain ⟨ha,hb,s1,s2,S',_⟩:=S.swap (i:=pr) (j:=p1) (by omega) (by omega) u1 v1
    simp [ht0,S.get,u1,v1,u6,v6,u7,v7,s1,s2,roundQ]
    refine ⟨hi-c1,by omega,hb,fun hok b o hb'=>⟨o,hb',hok b o hb'⟩,c1,rfl,by omega,.inl hc,by omega,_,_,_,F221_L100_of,S',by omega,hP.trans (PermIn.swap L (by omega) (by omega) (by omega) (by omega) (by omega) (by omega)),?_⟩
    rw [hpr,hp1]
    exact hI.step h1 (by omega) (.inl (by omega)) hc (by rw [← hpr,← hp1]; exact ht.1 ht0) hm
   ·simp [ht0,roundQ]
    exact hQ1 _ _ _ ⟨L,S,hP,hI.done fun d hd hd'=>leI_trans (hm d hd hd') (notI.1 fun hh=>ht0 (ht.2 (by rw [hpr,hp1]; exact hh)))⟩
 ·have hci:(hi:Int)≤(c1:Int):=by omega
  simp [e0,e1,hci,roundQ]
  exact hQ0 _ h _ _ F221_L100_of ⟨L,S,hP,hI.done fun d hd hd'=>by omega⟩
theorem sift_ok {x lo hi:Nat} {L:List V} {h:Heap} {n:Nat} (hN:N≤1000000000000) (hh:x+hi≤N) (hlo:lo≤1000000000000) (S:Srt h0 n0 a N f L h) (hn:n0≤n) (hI:HeapFrom f x (lo+1) hi L) :
  CallK CC 221 [.slice a 0 N c op,.s (.int .i64 (lo:Nat)),.s (.int .i64 (hi:Nat)),.s (.int .i64 (x:Nat)),cmpF] h n fun _ h' n'=>SiftP h0 n0 a N f x lo hi L h':=by
 refine F221_call fun hlt=>?_
 rw [F221_eq]
 refine sift_loop (lo:=lo) (L0:=L) hN hh (m0:=n) hn ?_ ?_ _ _ ⟨lo,L,h,n,rfl,by omega,.inr rfl,hlo,F221_L100_of,S,by omega,PermIn.refl _ _ _,fun i d h1 h2 h3 h4=>hI i d (by omega) h3 h4,fun p d h1 h2 h3 h4=>by omega⟩
 ·intro t10 h' n' s hs hp
  obtain ⟨g,rfl⟩:=hs
  rw [F221_r100_0]
  exact hp
 ·intro h' n' L' hp
  simp [resume,retW,dropDefs]
  exact hp
end
end Go.Ev
end
section
namespace Go.Ev
open Proofs
set_option maxRecDepth 20000
section
variable {h0:Heap} {n0 a N:Nat} {f:V→List Int} {op:Bool} {c:Nat}
theorem HeapFrom.max {x hi:Nat} {L:List V} (H:HeapFrom f x 0 hi L):∀ i,i<hi→kx f L (x+i)≤kx f L x:=by
 intro i
 induction i using Nat.strongRecOn with
 | ind i ih=>
  intro hi'
  by_cases h0:i=0
  ·subst h0; exact leI_refl _
  ·have:=ih ((i-1) / 2) (by omega) (by omega)
   exact leI_trans (H ((i-1) / 2) i (Nat.zero_le _) (by omega) hi') this
def PopI (f:V→List Int) (x j hi:Nat) (L:List V):Prop:=
 HeapFrom f x 0 j L∧(∀ p q,p<j→j≤q→q<hi→kx f L (x+p)≤kx f L (x+q))∧∀ p q,j≤p→p<q→q<hi→kx f L (x+p)≤kx f L (x+q)
theorem PopI.step {x i hi:Nat} {L L2:List V} (I:PopI f x (i+1) hi L) (hl:x+hi≤L.length) (hi':i<hi) (P:PermIn x (x+i) (swap L x (x+i)) L2) (H:HeapFrom f x 0 i L2):PopI f x i hi L2:=by
 obtain ⟨I1,I2,I3⟩:=I
 have ks:∀ p,kx f (swap L x (x+i)) (x+p)=if p=i then kx f L x else if p=0 then kx f L (x+i) else kx f L (x+p):=by
  intro p
  rw [kx_swap f L (by omega) (by omega)]
  by_cases e1:p=i
  ·rw [if_pos e1,if_pos (by omega)]
  ·rw [if_neg e1,if_neg (by omega)]
   by_cases e2:p=0
   ·rw [if_pos e2,if_pos (by omega)]
   ·rw [if_neg e2,if_neg (by omega)]
 have ko:∀ q,i≤q→kx f L2 (x+q)=if q=i then kx f L x else kx f L (x+q):=by
  intro q hq
  rw [P.outK (.inr (by omega)),ks]
  by_cases e:q=i
  ·rw [if_pos e,if_pos e]
  ·rw [if_neg e,if_neg e,if_neg (by omega)]
 have kp:∀ q,i≤q→q<hi→∀ p,x≤p→p<x+i→kx f L2 p≤kx f L2 (x+q):=by
  intro q hq hq'
  refine P.allK (P:=fun k=>k≤kx f L2 (x+q)) (by rw [swap_length]; omega) fun p p1 p2=>?_
  obtain ⟨r,rfl⟩:∃ r,p=x+r:=⟨p-x,by omega⟩
  rw [ks,ko q hq,if_neg (by omega)]
  by_cases e:q=i
  ·rw [if_pos e]
   by_cases e2:r=0
   ·rw [if_pos e2]; exact I1.max i (by omega)
   ·rw [if_neg e2]; exact I1.max r (by omega)
  ·rw [if_neg e]
   by_cases e2:r=0
   ·rw [if_pos e2]; exact I2 i q (by omega) (by omega) hq'
   ·rw [if_neg e2]; exact I2 r q (by omega) (by omega) hq'
 refine ⟨H,fun p q h1 h2 h3=>kp q h2 h3 (x+p) (by omega) (by omega),fun p q h1 h2 h3=>?_⟩
 rw [ko p h1,ko q (by omega),if_neg (show ¬ q=i by omega)]
 by_cases e:p=i
 ·rw [if_pos e]; exact I2 0 q (by omega) (by omega) h3
 ·rw [if_neg e]; exact I3 p q (by omega) h2 h3
theorem heap1_loop {x hi:Nat} {L0:List V} {y:V} (hN:N≤1000000000000) (hh:x+hi≤N) {Q:X→St→Prop} {m0:Nat} (hm0:n0≤m0)
  (hQ:∀ t11 L h n s,F199_L1110100 (.slice a 0 N c op) cmpF (.s (.int .i64 (x:Nat))) (.s (.int .i64 0)) (.s (.int .i64 (hi:Nat))) t11 h n s→Srt h0 n0 a N f L h→m0≤n→PermIn x (x+hi) L0 L→HeapFrom f x 0 hi L→Q (.exit 0) s) :
  ∀ m s,(∃ j L h n,m=j∧j≤hi+1∧F199_L1110100 (.slice a 0 N c op) cmpF (.s (.int .i64 (x:Nat))) (.s (.int .i64 0)) (.s (.int .i64 (hi:Nat))) (.s (.int .i64 ((j:Int)-1))) h n s∧Srt h0 n0 a N f L h∧m0≤n∧PermIn x (x+hi) L0 L∧HeapFrom f x j hi L) →
   LoopK CC none (subC [1,1,1,0,1,0,0] (bodyOf Tryz.f199)) s Q:=by
 refine loopH CCok _ ?_
 rintro m s ⟨j,L,h,n,hm,hj,hs,S,hn,hP,hI⟩ hlt
 obtain ⟨g,rfl⟩:=hs
 rw [F199_b1110100]
 cases j with
 | zero=>
  simp [roundQ]
  exact hQ _ L h _ _ F199_L1110100_of S (by omega) hP hI
 | succ i=>
  have e1:wrapF .i64 ((i:Int)-1)=(i:Int)-1:=by rw [wrapF_i64 (by omega) (by omega)]
  have e2:(((i+1:Nat):Int)-1)=(i:Int):=by omega
  rw [e2]
  have e3:(0:Int)≤(i:Int):=by omega
  simp [e3]
  refine CallK.monoN ?_ (sift_ok hN hh (by omega) S (by omega) hI)
  rintro _ h' n' ⟨L',S',P',H'⟩ hn'
  simp [roundQ]
  exact ⟨i,by omega,h',fun hok b o hb=>⟨o,hb,hok b o hb⟩,by omega,L',h',n',by rw [e1]; exact F199_L1110100_of,S',by omega,hP.trans P',H'⟩
theorem heap2_loop {x hi:Nat} {L0:List V} (hN:N≤1000000000000) (hh:x+hi≤N) {Q:X→St→Prop} {m0:Nat} (hm0:n0≤m0)
  (hQ:∀ t12 L h n s,F199_L1111100 (.slice a 0 N c op) cmpF (.s (.int .i64 (x:Nat))) (.s (.int .i64 0)) t12 h n s→Srt h0 n0 a N f L h→m0≤n→PermIn x (x+hi) L0 L→PopI f x 0 hi L→Q (.exit 2) s) :
  ∀ m s,(∃ j L h n,m=j∧j≤hi∧F199_L1111100 (.slice a 0 N c op) cmpF (.s (.int .i64 (x:Nat))) (.s (.int .i64 0)) (.s (.int .i64 ((j:Int)-1))) h n s∧Srt h0 n0 a N f L h∧m0≤n∧PermIn x (x+hi) L0 L∧PopI f x j hi L) →
   LoopK CC none (subC [1,1,1,1,1,0,0] (bodyOf Tryz.f199)) s Q:=by
 refine loopH CCok _ ?_
 rintro m s ⟨j,L,h,n,hm,hj,hs,S,hn,hP,hI⟩ hlt
 obtain ⟨g,rfl⟩:=hs
 rw [F199_b1111100]
 cases j with
 | zero=>
  simp [roundQ]
  exact hQ _ L h _ _ F199_L1111100_of S (by omega) hP hI
 | succ i=>
  have e1:wrapF .i64 ((i:Int)-1)=(i:Int)-1:=by rw [wrapF_i64 (by omega) (by omega)]
  have e2:(((i+1:Nat):Int)-1)=(i:Int):=by omega
  rw [e2]
  have e3:(0:Int)≤(i:Int):=by omega
  obtain ⟨p,hp⟩:∃ p,p=x+i:=⟨_,rfl⟩
  have ep:wrapF .i64 ((x:Int)+(i:Int))=(p:Int):=by rw [wrapF_i64 (by omega) (by omega)]; omega
  have pN:Nat.blt p N=true:=by rw [Nat.blt_eq]; omega
  have xN:Nat.blt x N=true:=by rw [Nat.blt_eq]; omega
  have hl:=S.len
  obtain ⟨v,bv,v1,v2,v3,v4,v5,v6,v7,v8,v9⟩:=S.at (show p<N by omega)
  obtain ⟨u,bu,u1,u2,u3,u4,u5,u6,u7,u8,u9⟩:=S.at (show x<N by omega)
  obtain ⟨ha,hb,s1,s2,S',_⟩:=S.swap (i:=x) (j:=p) (by omega) (by omega) u1 v1
  simp [e3,ep,pN,xN,cellsAt,S.get,u1,v1,u6,v6,u7,v7,s1,s2]
  have hH:HeapFrom f x (0+1) i (swap L x p):=by
   intro q d q1 q2 q3
   rw [kx_swap f L (by omega) (by omega),kx_swap f L (by omega) (by omega),if_neg (by omega),if_neg (by omega),if_neg (by omega),if_neg (by omega)]
   exact hI.1 q d (Nat.zero_le _) q2 (by omega)
  refine CallK.monoN ?_ (sift_ok (lo:=0) hN (by omega) (by omega) S' (by omega) hH)
  rintro _ h' n' ⟨L',S2,P',H'⟩ hn'
  simp [roundQ]
  refine ⟨i,by omega,h',fun hok b o hb=>⟨o,hb,hok b o hb⟩,by omega,L',h',n',by rw [e1]; exact F199_L1111100_of,S2,by omega,(hP.trans (PermIn.swap L (by omega) (by omega) (by omega) (by omega) (by omega) (by omega))).trans (P'.mono (by omega) (by omega)),?_⟩
  subst hp
  exact hI.step (by omega) (by omega) P' H'
theorem heapSort_ok {x y:Nat} {L:List V} {h:Heap} {n:Nat} (hN:N≤1000000000000) (hx:x<y) (hy:y≤N) (S:Srt h0 n0 a N f L h) (hn:n0≤n) :
  CallK CC 199 [.slice a 0 N c op,.s (.int .i64 (x:Nat)),.s (.int .i64 (y:Nat)),cmpF] h n fun _ h' n'=>SortP h0 n0 a N f x y L h':=by
 refine F199_call fun hlt=>?_
 rw [F199_eq]
 obtain ⟨hi,hhi⟩:∃ hi,hi=y-x:=⟨_,rfl⟩
 obtain ⟨h1,hh1⟩:∃ h1,h1=hi-1:=⟨_,rfl⟩
 obtain ⟨q,hq⟩:∃ q,q=h1 / 2:=⟨_,rfl⟩
 have e1:wrapF .i64 ((y:Int)-(x:Int))=(hi:Int):=by rw [wrapF_i64 (by omega) (by omega)]; omega
 have e2:wrapF .i64 ((hi:Int)-1)=(h1:Int):=by rw [wrapF_i64 (by omega) (by omega)]; omega
 have e3:binop CC .quo 3 true (.s (.int .i64 (h1:Int))) (.s (.int .i64 2))=some (.s (.int .i64 (q:Int))):=by
  rw [bin_quo _ _ _ _ (by decide)]
  rw [Int.tdiv_eq_ediv_of_nonneg (by omega),wrapF_i64 (by omega) (by omega)]
  congr 3
  omega
 simp [e1,e2,e3]
 have hxy:x+hi=y:=by omega
 refine heap1_loop (x:=x) (hi:=hi) (L0:=L) (y:=undefV) hN (by omega) (m0:=n) hn ?_ _ _ ⟨q+1,L,h,n,rfl,by omega,by rw [show ((q+1:Nat):Int)-1=(q:Int) by omega]; exact F199_L1110100_of,S,by omega,PermIn.refl _ _ _,fun i d h1 h2 h3=>by omega⟩
 intro t11 L1 h2 n2 s hs S1 hn1 P1 H1
 obtain ⟨g,rfl⟩:=hs
 rw [F199_r1110100_0]
 simp [e2]
 refine heap2_loop (x:=x) (hi:=hi) (L0:=L1) hN (by omega) (m0:=n) hn ?_ _ _ ⟨hi,L1,h2,n2,rfl,by omega,by rw [show (hi:Int)-1=(h1:Int) by omega]; exact F199_L1111100_of,S1,by omega,PermIn.refl _ _ _,H1,fun p q _ _ _=>by omega,fun p q _ _ _=>by omega⟩
 intro t12 L2 h3 n3 s hs S2 hn2 P2 H2
 obtain ⟨g,rfl⟩:=hs
 rw [F199_r1111100_2]
 refine ⟨L2,S2,by rw [hxy] at P1 P2; exact P1.trans P2,fun p q h1 h2 h3=>?_⟩
 have:=H2.2.2 (p-x) (q-x) (by omega) (by omega) (by omega)
 rwa [show x+(p-x)=p by omega,show x+(q-x)=q by omega] at this
end
end Go.Ev
end
section
namespace Go.Ev
open Proofs
set_option maxRecDepth 20000
section
variable {h0:Heap} {n0 a N:Nat} {f:V→List Int} {op:Bool} {c:Nat}
def PermP (h0:Heap) (n0 a N:Nat) (f:V→List Int) (x y:Nat) (L:List V) (h':Heap):Prop:=∃ L',Srt h0 n0 a N f L' h'∧PermIn x y L L'
theorem rev_loop {x y:Nat} {L0:List V} (hN:N≤1000000000000) (hy:y≤N) {Q:X→St→Prop}
  (hQ:∀ t8 t9 h n s,F202_L1100 (.slice a 0 N c op) t8 t9 h n s→PermP h0 n0 a N f x y L0 h→Q (.exit 0) s) :
  ∀ m s,(∃ i j L h n,m=j-i∧x≤i∧i≤y∧j<y∧F202_L1100 (.slice a 0 N c op) (.s (.int .i64 (i:Nat))) (.s (.int .i64 (j:Nat))) h n s∧Srt h0 n0 a N f L h∧PermIn x y L0 L) →
   LoopK CC none (subC [1,1,0,0] (bodyOf Tryz.f202)) s Q:=by
 refine loopH CCok _ ?_
 rintro m s ⟨i,j,L,h,n,hm,h1,h2,h3,hs,S,hP⟩ hlt
 obtain ⟨g,rfl⟩:=hs
 rw [F202_b1100]
 by_cases hij:i<j
 ·have e1:wrapF .i64 ((i:Int)+1)=((i+1:Nat):Int):=by rw [wrapF_i64 (by omega) (by omega)]; rfl
  have e2:wrapF .i64 ((j:Int)-1)=((j-1:Nat):Int):=by rw [wrapF_i64 (by omega) (by omega)]; omega
  have iN:Nat.blt i N=true:=by rw [Nat.blt_eq]; omega
  have jN:Nat.blt j N=true:=by rw [Nat.blt_eq]; omega
  have hl:=S.len
  obtain ⟨v,bv,v1,v2,v3,v4,v5,v6,v7,v8,v9⟩:=S.at (show i<N by omega)
  obtain ⟨w,bw,w1,w2,w3,w4,w5,w6,w7,w8,w9⟩:=S.at (show j<N by omega)
  obtain ⟨ha,hb,s1,s2,S',_⟩:=S.swap (i:=i) (j:=j) (by omega) (by omega) v1 w1
  simp [hij,iN,jN,cellsAt,S.get,v1,w1,v6,w6,v7,w7,s1,s2,roundQ]
  exact ⟨j-1-(i+1),by omega,hb,fun hok b o hb=>⟨o,hb,hok b o hb⟩,i+1,j-1,rfl,by omega,by omega,by omega,_,_,⟨_,by rw [e1,e2]; exact F202_L1100_of⟩,S',hP.trans (PermIn.swap L (by omega) (by omega) (by omega) (by omega) (by omega) (by omega))⟩
 ·simp [hij,roundQ]
  exact hQ _ _ h _ _ F202_L1100_of ⟨L,S,hP⟩
theorem rev_ok {x y:Nat} {L:List V} {h:Heap} {n:Nat} (hN:N≤1000000000000) (hx:x<y) (hy:y≤N) (S:Srt h0 n0 a N f L h) :
  CallK CC 202 [.slice a 0 N c op,.s (.int .i64 (x:Nat)),.s (.int .i64 (y:Nat)),cmpF] h n fun _ h' n'=>PermP h0 n0 a N f x y L h':=by
 refine F202_call fun hlt=>?_
 rw [F202_eq]
 have e1:wrapF .i64 ((y:Int)-1)=((y-1:Nat):Int):=by rw [wrapF_i64 (by omega) (by omega)]; omega
 simp
 refine rev_loop (x:=x) (y:=y) (L0:=L) hN hy ?_ _ _ ⟨x,y-1,L,h,n,rfl,by omega,by omega,by omega,by rw [e1]; exact F202_L1100_of,S,PermIn.refl _ _ _⟩
 intro t8 t9 h' n' s hs hp
 obtain ⟨g,rfl⟩:=hs
 rw [F202_r1100_0]
 exact hp
def NumAt (h:Heap) (s:Nat):Prop:=∃ x:Int,h.get s=some (.cells (.lst [.s (.int .i64 x)]) 1)
def Order2P (h0:Heap) (n0 a N:Nat) (f:V→List Int) (x y s:Nat) (L:List V) (v:V) (h':Heap):Prop:=
 ∃ i j:Nat,v=.tup [.s (.int .i64 i),.s (.int .i64 j)]∧x≤i∧i<y∧x≤j∧j<y∧Srt h0 n0 a N f L h'∧NumAt h' s
theorem order2_ok {x y s i j:Nat} {L:List V} {h:Heap} {n:Nat} (hy:y≤N) (hi:x≤i∧i<y) (hj:x≤j∧j<y) (S:Srt h0 n0 a N f L h) (hs:NumAt h s) (s0:n0≤s) (sa:s≠a) :
  CallK CC 226 [.slice a 0 N c op,.s (.int .i64 (i:Nat)),.s (.int .i64 (j:Nat)),.ptr s 0,cmpF] h n fun v h' n'=>Order2P h0 n0 a N f x y s L v h':=by
 refine F226_call fun hlt=>?_
 rw [F226_eq]
 have iN:Nat.blt i N=true:=by rw [Nat.blt_eq]; omega
 have jN:Nat.blt j N=true:=by rw [Nat.blt_eq]; omega
 obtain ⟨v,bv,v1,v2,v3,v4,v5,v6,v7,v8,v9⟩:=S.at (show i<N by omega)
 obtain ⟨w,bw,w1,w2,w3,w4,w5,w6,w7,w8,w9⟩:=S.at (show j<N by omega)
 obtain ⟨k,hk⟩:=hs
 simp [iN,jN,cellsAt,S.get,v1,w1,v6,w6]
 refine compare_ok w4 v4 w5 v5 ?_
 intro z hz z1 z2
 by_cases hz0:z<0
 ·simp [hz0,hk,storeCells,cellsOwn,Rope.put,ble_dec]
  exact ⟨j,i,rfl,hj.1,hj.2,hi.1,hi.2,S.of fun b hb=>by rw [Tree.get_set,if_neg (by rcases hb with hb | hb <;> omega)],_,by rw [Tree.get_set,if_pos rfl]⟩
 ·simp [hz0]
  exact ⟨i,j,rfl,hi.1,hi.2,hj.1,hj.2,S,k,hk⟩
def MedP (h0:Heap) (n0 a N:Nat) (f:V→List Int) (x y s:Nat) (L:List V) (v:V) (h':Heap):Prop:=
 ∃ i:Nat,v=.s (.int .i64 i)∧x≤i∧i<y∧Srt h0 n0 a N f L h'∧NumAt h' s
theorem median_ok {x y s i j k:Nat} {L:List V} {h:Heap} {n:Nat} (hy:y≤N) (hi:x≤i∧i<y) (hj:x≤j∧j<y) (hk:x≤k∧k<y) (S:Srt h0 n0 a N f L h) (hs:NumAt h s) (s0:n0≤s) (sa:s≠a) :
  CallK CC 225 [.slice a 0 N c op,.s (.int .i64 (i:Nat)),.s (.int .i64 (j:Nat)),.s (.int .i64 (k:Nat)),.ptr s 0,cmpF] h n fun v h' n'=>MedP h0 n0 a N f x y s L v h':=by
 refine F225_call fun hlt=>?_
 rw [F225_eq]
 refine CallK.monoN ?_ (order2_ok hy hi hj S hs s0 sa)
 rintro _ h1 n1 ⟨i1,j1,rfl,a1,a2,a3,a4,S1,m1⟩ hn1
 simp
 refine CallK.monoN ?_ (order2_ok hy ⟨a3,a4⟩ hk S1 m1 s0 sa)
 rintro _ h2 n2 ⟨i2,j2,rfl,b1,b2,b3,b4,S2,m2⟩ hn2
 simp
 refine CallK.monoN ?_ (order2_ok hy ⟨a1,a2⟩ ⟨b1,b2⟩ S2 m2 s0 sa)
 rintro _ h3 n3 ⟨i3,j3,rfl,c1,c2,c3,c4,S3,m3⟩ hn3
 simp
 exact ⟨j3,rfl,c3,c4,S3,m3⟩
theorem medAdj_ok {x y s i:Nat} {L:List V} {h:Heap} {n:Nat} (hN:N≤1000000000000) (hy:y≤N) (hi:x+1≤i∧i+1<y) (S:Srt h0 n0 a N f L h) (hs:NumAt h s) (s0:n0≤s) (sa:s≠a) :
  CallK CC 224 [.slice a 0 N c op,.s (.int .i64 (i:Nat)),.ptr s 0,cmpF] h n fun v h' n'=>MedP h0 n0 a N f x y s L v h':=by
 refine F224_call fun hlt=>?_
 rw [F224_eq]
 obtain ⟨i1,hi1⟩:∃ i1,i1=i-1:=⟨_,rfl⟩
 obtain ⟨i2,hi2⟩:∃ i2,i2=i+1:=⟨_,rfl⟩
 have e1:wrapF .i64 ((i:Int)-1)=(i1:Int):=by rw [wrapF_i64 (by omega) (by omega)]; omega
 have e2:wrapF .i64 ((i:Int)+1)=(i2:Int):=by rw [wrapF_i64 (by omega) (by omega)]; omega
 simp [e1,e2]
 exact median_ok hy (by omega) (by omega) (by omega) S hs s0 sa
def PivP (h0:Heap) (n0 a N:Nat) (f:V→List Int) (x y:Nat) (L:List V) (v:V) (h':Heap):Prop:=
 ∃ (i:Nat) (k:Int),v=.tup [.s (.int .i64 i),.s (.int .i64 k)]∧(k=0∨k=1∨k=2)∧x≤i∧i<y∧Srt h0 n0 a N f L h'
theorem pivot_ok {x y:Nat} {L:List V} {h:Heap} {n:Nat} (hN:N≤1000000000000) (hx:x+13≤y) (hy:y≤N) (S:Srt h0 n0 a N f L h) (hn:n0≤n) :
  CallK CC 201 [.slice a 0 N c op,.s (.int .i64 (x:Nat)),.s (.int .i64 (y:Nat)),cmpF] h n fun v h' n'=>PivP h0 n0 a N f x y L v h':=by
 refine F201_call fun hlt=>?_
 rw [F201_eq]
 have han:=hlt a _ S.get
 obtain ⟨l,hl⟩:∃ l,l=y-x:=⟨_,rfl⟩
 obtain ⟨q,hq⟩:∃ q,q=l / 4:=⟨_,rfl⟩
 obtain ⟨q2,hq2⟩:∃ q2,q2=q*2:=⟨_,rfl⟩
 obtain ⟨q3,hq3⟩:∃ q3,q3=q*3:=⟨_,rfl⟩
 obtain ⟨i,hi⟩:∃ i,i=x+q:=⟨_,rfl⟩
 obtain ⟨j,hj⟩:∃ j,j=x+q2:=⟨_,rfl⟩
 obtain ⟨k,hk⟩:∃ k,k=x+q3:=⟨_,rfl⟩
 have e1:wrapF .i64 ((y:Int)-(x:Int))=(l:Int):=by rw [wrapF_i64 (by omega) (by omega)]; omega
 have e2:binop CC .quo 3 true (.s (.int .i64 (l:Int))) (.s (.int .i64 4))=some (.s (.int .i64 (q:Int))):=by
  rw [bin_quo _ _ _ _ (by decide)]
  rw [Int.tdiv_eq_ediv_of_nonneg (by omega),wrapF_i64 (by omega) (by omega)]
  congr 3
  omega
 have e30:wrapF .i64 ((q:Int))=(q:Int):=by rw [wrapF_i64 (by omega) (by omega)]
 have e31:wrapF .i64 ((q:Int)*2)=(q2:Int):=by rw [wrapF_i64 (by omega) (by omega)]; omega
 have e32:wrapF .i64 ((q:Int)*3)=(q3:Int):=by rw [wrapF_i64 (by omega) (by omega)]; omega
 have e4:wrapF .i64 ((x:Int)+(q:Int))=(i:Int):=by rw [wrapF_i64 (by omega) (by omega)]; omega
 have e5:wrapF .i64 ((x:Int)+(q2:Int))=(j:Int):=by rw [wrapF_i64 (by omega) (by omega)]; omega
 have e6:wrapF .i64 ((x:Int)+(q3:Int))=(k:Int):=by rw [wrapF_i64 (by omega) (by omega)]; omega
 have l8:(8:Int)≤(l:Int):=by omega
 obtain ⟨h2,hh2⟩:∃ h2,h2=h.set n (.cells (.lst (zr CC 3).toList) 1):=⟨_,rfl⟩
 have S2:Srt h0 n0 a N f L h2:=S.of fun b hb=>by rw [hh2,Tree.get_set,if_neg (by rcases hb with hb | hb <;> omega)]
 have m2:NumAt h2 n:=⟨0,by rw [hh2,Tree.get_set,if_pos rfl]; simp⟩
 have fin:∀ {v:V} {h':Heap} {n':Nat},MedP h0 n0 a N f x y n L v h'→oK (normO (rLoad CC 3 h' (.ptr n 0))) (fun v29=>oK (binop CC .eql 3 true v29 (.s (.int .i64 0))) fun v30=>oK (asBool v30) fun b31=>bif b31 then PivP h0 n0 a N f x y L (.tup [v,(.s (.int .i64 1))]) h' else
   oK (binop CC .eql 3 true v29 (.s (.int .i64 12))) fun v32=>oK (asBool v32) fun b33=>bif b33 then PivP h0 n0 a N f x y L (.tup [v,(.s (.int .i64 2))]) h' else PivP h0 n0 a N f x y L (.tup [v,(.s (.int .i64 0))]) h'):=by
  rintro v h' n' ⟨r,rfl,r1,r2,S',z,hz⟩
  simp [cellsAt,hz]
  by_cases z0:z=0
  ·simp [z0]; exact ⟨r,1,rfl,by omega,r1,r2,S'⟩
  ·by_cases z12:z=12
   ·simp [z12]; exact ⟨r,2,rfl,by omega,r1,r2,S'⟩
   ·simp [z0,z12]; exact ⟨r,0,rfl,by omega,r1,r2,S'⟩
 have nsa:n≠a:=by omega
 by_cases l50:(50:Int)≤(l:Int)
 ·simp only [bin_sub,bin_mul,bin_add,bin_geq,oK_some,e1,e2,e30,e31,e32,e4,e5,e6,l8,l50,← hh2,show ∀ b,asBool (.s (.bool b))=some b from fun _=>rfl,decide_true,cond_true,Int.mul_one]
  refine CallK.monoN ?_ (medAdj_ok (x:=x) (y:=y) (i:=i) hN hy (by omega) S2 m2 hn nsa)
  rintro _ h3 n3 ⟨i',rfl,a1,a2,S3,m3⟩ hn3
  refine CallK.monoN ?_ (medAdj_ok (x:=x) (y:=y) (i:=j) hN hy (by omega) S3 m3 hn nsa)
  rintro _ h4 n4 ⟨j',rfl,b1,b2,S4,m4⟩ hn4
  refine CallK.monoN ?_ (medAdj_ok (x:=x) (y:=y) (i:=k) hN hy (by omega) S4 m4 hn nsa)
  rintro _ h5 n5 ⟨k',rfl,c1,c2,S5,m5⟩ hn5
  refine CallK.monoN ?_ (median_ok hy ⟨a1,a2⟩ ⟨b1,b2⟩ ⟨c1,c2⟩ S5 m5 hn nsa)
  rintro v h6 n6 hv hn6
  exact fin (n':=n6) hv
 ·simp only [bin_sub,bin_mul,bin_add,bin_geq,oK_some,e1,e2,e30,e31,e32,e4,e5,e6,l8,l50,decide_false,cond_false,← hh2,show ∀ b,asBool (.s (.bool b))=some b from fun _=>rfl,decide_true,cond_true,Int.mul_one]
  refine CallK.monoN ?_ (median_ok (x:=x) (y:=y) (i:=i) (j:=j) (k:=k) hy (by omega) (by omega) (by omega) S2 m2 hn nsa)
  rintro v h6 n6 hv hn6
  exact fin (n':=n6) hv
end
end Go.Ev
end
section
namespace Go.Ev
open Proofs
set_option maxRecDepth 20000
theorem and_le (w b:Int) (h0:0≤b) (h1:b<18446744073709551616):0≤bitsI .and .u64 w b∧bitsI .and .u64 w b≤b:=by
 unfold bitsI
 simp only
 have hb:(BitVec.ofInt IntKind.u64.bits b).toNat=b.toNat:=by
  rw [BitVec.toNat_ofInt]
  show (b % ((2 ^ 64:Nat):Int)).toNat=b.toNat
  rw [Int.emod_eq_of_lt h0 (by omega)]
 have hle:(BitVec.ofInt IntKind.u64.bits w &&& BitVec.ofInt IntKind.u64.bits b).toNat≤b.toNat:=by
  rw [BitVec.toNat_and,hb]
  exact Nat.and_le_right
 generalize (BitVec.ofInt IntKind.u64.bits w &&& BitVec.ofInt IntKind.u64.bits b).toNat=r at hle
 rw [wrapF_u64 (by omega) (by omega)]
 omega
noncomputable def npotOk (l:Nat):Bool:=match answersOne (Ctx.of Tryz.prog 0) 222 [.int .i64 (l:Nat)] with
 | some (.int .u64 x)=>decide (1≤x) && decide (x≤2*(l:Int))
 | _=>false
theorem npots:(List.range 64).all (fun l=>npotOk (l+1))=true:=by kernel_rfl
theorem npot_ok (l:Nat) (h1:1≤l) (h2:l≤64) (h:Heap) (n:Nat):CallK CC 222 [.s (.int .i64 (l:Nat))] h n fun v h' n'=>(∃ x:Int,v=.s (.int .u64 x)∧1≤x∧x≤2*(l:Int))∧h'=h:=by
 have:=List.all_eq_true.1 npots (l-1) (by simp; omega)
 rw [show l-1+1=l by omega] at this
 unfold npotOk at this
 cases ha:answersOne (Ctx.of Tryz.prog 0) 222 [.int .i64 (l:Nat)] with
 | none=>rw [ha] at this; simp at this
 | some v=>
  rw [ha] at this
  refine CallK.mono' ?_ (closedOne typesFine namesFine mixedFine ha h n)
  rintro _ _ _ ⟨rfl,rfl,_⟩
  split at this
  ·rename_i x e
   cases e
   simp at this
   exact ⟨⟨x,rfl,this.1,this.2⟩,rfl⟩
  ·cases this
section
variable {h0:Heap} {n0 a N:Nat} {f:V→List Int} {op:Bool} {c:Nat}
def WordAt (h:Heap) (s:Nat):Prop:=∃ x:Int,h.get s=some (.cells (.lst [.s (.int .u64 x)]) 1)
theorem next_ok {s:Nat} {h:Heap} {n:Nat} (hs:WordAt h s):CallK CC 223 [.ptr s 0] h n fun v h' n'=>(∃ x:Int,v=.s (.int .u64 x))∧WordAt h' s∧∀ b,b≠s→h'.get b=h.get b:=by
 refine F223_call fun hlt=>?_
 rw [F223_eq]
 obtain ⟨x,hx⟩:=hs
 have e1:∀ x:Int,binop CC .shl 313 true (.s (.int .u64 x)) (.s (.int .u64 13))=some (.s (.int .u64 (shlI .u64 x 13))):=fun x=>bin_shl _ _ _ _ _ (by decide)
 have e2:∀ x:Int,binop CC .shr 313 true (.s (.int .u64 x)) (.s (.int .u64 7))=some (.s (.int .u64 (shrI .u64 x 7))):=fun x=>bin_shr _ _ _ _ _ (by decide)
 have e3:∀ x:Int,binop CC .shl 313 true (.s (.int .u64 x)) (.s (.int .u64 17))=some (.s (.int .u64 (shlI .u64 x 17))):=fun x=>bin_shl _ _ _ _ _ (by decide)
 simp [cellsAt,hx,e1,e2,e3,storeCells,cellsOwn,Rope.put,ble_dec,Tree.get_set]
 refine ⟨⟨_,by rw [Tree.get_set,if_pos rfl]⟩,fun b hb=>by rw [if_neg hb,if_neg hb,if_neg hb]⟩
set_option maxHeartbeats 1600000 in
theorem brk_loop {x y l s M:Nat} {L0:List V} (hN:N≤64) (hy:y≤N) (hl:l=y-x) (h13:x+13≤y) (hM:1≤M) (hM2:M≤2*l) (s0:n0≤s) (sa:s≠a) {Q:X→St→Prop}
  (hQ:∀ t11 h n s',F200_L11011100 (.slice a 0 N c op) (.s (.int .i64 (x:Nat))) (.s (.int .i64 (l:Nat))) (.ptr s 0) (.s (.int .u64 (M:Nat))) t11 h n s'→PermP h0 n0 a N f x y L0 h→Q (.exit 0) s') :
  ∀ m s',(∃ i L h n,m=y-i∧x≤i∧i≤y∧F200_L11011100 (.slice a 0 N c op) (.s (.int .i64 (x:Nat))) (.s (.int .i64 (l:Nat))) (.ptr s 0) (.s (.int .u64 (M:Nat))) (.s (.int .i64 (i:Nat))) h n s'∧Srt h0 n0 a N f L h∧WordAt h s∧PermIn x y L0 L) →
   LoopK CC none (subC [1,1,0,1,1,1,0,0] (bodyOf Tryz.f200)) s' Q:=by
 refine loopH CCok _ ?_
 rintro m s' ⟨i,L,h,n,hm,h1,h2,hs,S,hw,hP⟩ hlt
 obtain ⟨g,rfl⟩:=hs
 rw [F200_b11011100]
 obtain ⟨q,hq⟩:∃ q,q=l / 4:=⟨_,rfl⟩
 obtain ⟨q2,hq2⟩:∃ q2,q2=q*2:=⟨_,rfl⟩
 obtain ⟨j,hj⟩:∃ j,j=x+q2:=⟨_,rfl⟩
 obtain ⟨j1,hj1⟩:∃ j1,j1=j+1:=⟨_,rfl⟩
 have e2:binop CC .quo 3 true (.s (.int .i64 (l:Int))) (.s (.int .i64 4))=some (.s (.int .i64 (q:Int))):=by
  rw [bin_quo _ _ _ _ (by decide)]
  rw [Int.tdiv_eq_ediv_of_nonneg (by omega),wrapF_i64 (by omega) (by omega)]
  congr 3
  omega
 have e31:wrapF .i64 ((q:Int)*2)=(q2:Int):=by rw [wrapF_i64 (by omega) (by omega)]; omega
 have e5:wrapF .i64 ((x:Int)+(q2:Int))=(j:Int):=by rw [wrapF_i64 (by omega) (by omega)]; omega
 have e6:wrapF .i64 ((j:Int)+1)=(j1:Int):=by rw [wrapF_i64 (by omega) (by omega)]; omega
 by_cases hij:i≤j1
 ·have ei:wrapF .i64 ((i:Int)+1)=((i+1:Nat):Int):=by rw [wrapF_i64 (by omega) (by omega)]; rfl
  simp [e2,e31,e5,e6,hij]
  refine CallK.monoN ?_ (next_ok hw)
  rintro _ h3 n3 ⟨⟨w,rfl⟩,w3,hs3⟩ hn3
  have S3:Srt h0 n0 a N f L h3:=S.of fun b hb=>hs3 b (by rcases hb with hb | hb <;> omega)
  have em:wrapF .u64 ((M:Int)-1)=(M:Int)-1:=wrapF_u64 (by omega) (by omega)
  have hb:=and_le w ((M:Int)-1) (by omega) (by omega)
  obtain ⟨o,ho⟩:∃ o:Nat,bitsI .and .u64 w ((M:Int)-1)=(o:Int):=⟨(bitsI .and .u64 w ((M:Int)-1)).toNat,by omega⟩
  rw [ho] at hb
  have eo:wrapF .i64 (o:Int)=(o:Int):=wrapF_i64 (by omega) (by omega)
  have iN:Nat.blt i N=true:=by rw [Nat.blt_eq]; omega
  obtain ⟨v,bv,v1,v2,v3,v4,v5,v6,v7,v8,v9⟩:=S3.at (show i<N by omega)
  have hl3:=S3.len
  simp [em,ho,eo]
  by_cases hol:(l:Int)≤(o:Int)
  ·obtain ⟨o2,ho2⟩:∃ o2,o2=o-l:=⟨_,rfl⟩
   obtain ⟨p,hp⟩:∃ p,p=x+o2:=⟨_,rfl⟩
   have e7:wrapF .i64 ((o:Int)-(l:Int))=(o2:Int):=by rw [wrapF_i64 (by omega) (by omega)]; omega
   have e8:wrapF .i64 ((x:Int)+(o2:Int))=(p:Int):=by rw [wrapF_i64 (by omega) (by omega)]; omega
   have pN:Nat.blt p N=true:=by rw [Nat.blt_eq]; omega
   obtain ⟨u,bu,u1,u2,u3,u4,u5,u6,u7,u8,u9⟩:=S3.at (show p<N by omega)
   obtain ⟨ha,hb,s1,s2,S',hsub⟩:=S3.swap (i:=i) (j:=p) (by omega) (by omega) v1 u1
   have hol':l≤o:=by omega
   simp [hol',e7,e8,iN,pN,cellsAt,S3.get,v1,u1,v6,u6,v7,u7,s1,s2,roundQ]
   have ws:WordAt hb s:=by
    obtain ⟨z,hz⟩:=w3
    exact ⟨z,by rw [hsub s sa]; exact hz⟩
   exact ⟨y-(i+1),by omega,hb,fun hok b o hb=>⟨o,hb,hok b o hb⟩,i+1,rfl,by omega,by omega,_,_,⟨_,by rw [ei]; exact F200_L11011100_of⟩,S',ws,hP.trans (PermIn.swap L (by omega) (by omega) (by omega) (by omega) (by omega) (by omega))⟩
  ·obtain ⟨p,hp⟩:∃ p,p=x+o:=⟨_,rfl⟩
   have e8:wrapF .i64 ((x:Int)+(o:Int))=(p:Int):=by rw [wrapF_i64 (by omega) (by omega)]; omega
   have pN:Nat.blt p N=true:=by rw [Nat.blt_eq]; omega
   obtain ⟨u,bu,u1,u2,u3,u4,u5,u6,u7,u8,u9⟩:=S3.at (show p<N by omega)
   obtain ⟨ha,hb,s1,s2,S',hsub⟩:=S3.swap (i:=i) (j:=p) (by omega) (by omega) v1 u1
   have hol':¬ l≤o:=by omega
   simp [hol',e8,iN,pN,cellsAt,S3.get,v1,u1,v6,u6,v7,u7,s1,s2,roundQ]
   have ws:WordAt hb s:=by
    obtain ⟨z,hz⟩:=w3
    exact ⟨z,by rw [hsub s sa]; exact hz⟩
   exact ⟨y-(i+1),by omega,hb,fun hok b o hb=>⟨o,hb,hok b o hb⟩,i+1,rfl,by omega,by omega,_,_,⟨_,by rw [ei]; exact F200_L11011100_of⟩,S',ws,hP.trans (PermIn.swap L (by omega) (by omega) (by omega) (by omega) (by omega) (by omega))⟩
 ·simp [e2,e31,e5,e6,hij,roundQ]
  exact hQ _ h _ _ F200_L11011100_of ⟨L,S,hP⟩
theorem brk_ok {x y:Nat} {L:List V} {h:Heap} {n:Nat} (hN:N≤64) (hx:x+13≤y) (hy:y≤N) (S:Srt h0 n0 a N f L h) (hn:n0≤n) :
  CallK CC 200 [.slice a 0 N c op,.s (.int .i64 (x:Nat)),.s (.int .i64 (y:Nat)),cmpF] h n fun _ h' n'=>PermP h0 n0 a N f x y L h':=by
 refine F200_call fun hlt=>?_
 rw [F200_eq]
 have han:=hlt a _ S.get
 obtain ⟨l,hl⟩:∃ l,l=y-x:=⟨_,rfl⟩
 obtain ⟨q,hq⟩:∃ q,q=l / 4:=⟨_,rfl⟩
 obtain ⟨q2,hq2⟩:∃ q2,q2=q*2:=⟨_,rfl⟩
 obtain ⟨j,hj⟩:∃ j,j=x+q2:=⟨_,rfl⟩
 have e1:wrapF .i64 ((y:Int)-(x:Int))=(l:Int):=by rw [wrapF_i64 (by omega) (by omega)]; omega
 have e2:binop CC .quo 3 true (.s (.int .i64 (l:Int))) (.s (.int .i64 4))=some (.s (.int .i64 (q:Int))):=by
  rw [bin_quo _ _ _ _ (by decide)]
  rw [Int.tdiv_eq_ediv_of_nonneg (by omega),wrapF_i64 (by omega) (by omega)]
  congr 3
  omega
 have e31:wrapF .i64 ((q:Int)*2)=(q2:Int):=by rw [wrapF_i64 (by omega) (by omega)]; omega
 have e5:wrapF .i64 ((x:Int)+(q2:Int))=(j:Int):=by rw [wrapF_i64 (by omega) (by omega)]; omega
 have e6:wrapF .i64 ((j:Int)-1)=((j-1:Nat):Int):=by rw [wrapF_i64 (by omega) (by omega)]; omega
 have l8:(8:Int)≤(l:Int):=by omega
 simp [e1,l8,storeCells,cellsOwn,Rope.put,ble_dec,Tree.get_set]
 generalize hh2:((h.set n (.cells (.lst [.s (.int .u64 0)]) 1)).set n (.cells (.lst [.s (.int .u64 (wrapF .u64 (l:Int)))]) 1))=h2
 have S2:Srt h0 n0 a N f L h2:=S.of fun b hb=>by rw [← hh2,Tree.get_set,if_neg (by rcases hb with hb | hb <;> omega),Tree.get_set,if_neg (by rcases hb with hb | hb <;> omega)]
 have w2:WordAt h2 n:=⟨_,by rw [← hh2,Tree.get_set,if_pos rfl]⟩
 refine CallK.monoN ?_ (npot_ok l (by omega) (by omega) _ _)
 rintro _ h1 n1 ⟨⟨w,rfl,w1,w3⟩,e⟩ hn1
 rw [e]
 obtain ⟨M,rfl⟩:∃ M:Nat,w=(M:Int):=⟨w.toNat,by omega⟩
 simp [e2,e31,e5,e6]
 refine brk_loop (x:=x) (y:=y) (l:=l) (s:=n) (M:=M) (L0:=L) hN hy hl hx (by omega) (by omega) hn (by omega) ?_ _ _ ⟨j-1,L,h2,n1,rfl,by omega,by omega,F200_L11011100_of,S2,w2,PermIn.refl _ _ _⟩
 intro t11 h' n' s hs hp
 obtain ⟨g,rfl⟩:=hs
 rw [F200_r11011100_0]
 exact hp
end
end Go.Ev
end
section
namespace Go.Ev
open Proofs
set_option maxRecDepth 20000
section
variable {h0:Heap} {n0 a N:Nat} {f:V→List Int} {op:Bool} {c:Nat}
theorem partA {x i0 j:Nat} {L:List V} {h:Heap} (hN:N≤1000000000000) (hx:x<i0) (hj:j<N) (hij:i0≤j+1) (S:Srt h0 n0 a N f L h) {Q:X→St→Prop}
  (hQ:∀ (i n:Nat) (s:St),i0≤i→i≤j+1→(∀ p,i0≤p→p<i→kx f L p<kx f L x)→(i≤j→kx f L x≤kx f L i)→F205_L111000 (.slice a 0 N c op) (.s (.int .i64 (x:Nat))) cmpF (.s (.int .i64 (i:Nat))) (.s (.int .i64 (j:Nat))) h n s→Q (.exit 0) s) :
  ∀ m s,(∃ i n,m=j+1-i∧i0≤i∧i≤j+1∧F205_L111000 (.slice a 0 N c op) (.s (.int .i64 (x:Nat))) cmpF (.s (.int .i64 (i:Nat))) (.s (.int .i64 (j:Nat))) h n s∧∀ p,i0≤p→p<i→kx f L p<kx f L x) →
   LoopK CC none (subC [1,1,1,0,0,0] (bodyOf Tryz.f205)) s Q:=by
 refine loopH CCok _ ?_
 rintro m s ⟨i,n,hm,h1,h2,hs,hI⟩ hlt
 obtain ⟨g,rfl⟩:=hs
 rw [F205_b111000]
 by_cases hle:i≤j
 ·have e1:wrapF .i64 ((i:Int)+1)=((i+1:Nat):Int):=by rw [wrapF_i64 (by omega) (by omega)]; rfl
  have iN:Nat.blt i N=true:=by rw [Nat.blt_eq]; omega
  have xN:Nat.blt x N=true:=by rw [Nat.blt_eq]; omega
  obtain ⟨v,bv,v1,v2,v3,v4,v5,v6,v7,v8,v9⟩:=S.at (show i<N by omega)
  obtain ⟨u,bu,u1,u2,u3,u4,u5,u6,u7,u8,u9⟩:=S.at (show x<N by omega)
  simp [hle,iN,xN,cellsAt,S.get,v1,u1,v6,u6]
  refine compare_ok v4 u4 v5 u5 ?_
  intro z hz z1 z2
  rw [v8,u8] at hz
  by_cases hz0:z<0
  ·simp [hz0,roundQ]
   exact ⟨j+1-(i+1),by omega,h,fun hok b o hb=>⟨o,hb,hok b o hb⟩,i+1,rfl,by omega,by omega,⟨_,by rw [e1]; exact F205_L111000_of⟩,fun p p1 p2=>by
    by_cases hp:p=i
    ·rw [hp]; exact hz.1 hz0
    ·exact hI p p1 (by omega)⟩
  ·simp [hz0,roundQ]
   exact hQ i _ _ h1 h2 hI (fun _=>notI.1 fun hh=>hz0 (hz.2 hh)) F205_L111000_of
 ·simp [hle,roundQ]
  exact hQ i _ _ h1 h2 hI (fun h=>absurd h hle) F205_L111000_of
theorem partB {x i j0:Nat} {L:List V} {h:Heap} (hN:N≤1000000000000) (hx:x<i) (hj:j0<N) (hij:i≤j0+1) (S:Srt h0 n0 a N f L h) {Q:X→St→Prop}
  (hQ:∀ (j n:Nat) (s:St),j≤j0→i≤j+1→(∀ p,j<p→p≤j0→kx f L x≤kx f L p)→(i≤j→kx f L j<kx f L x)→F205_L1111000 (.slice a 0 N c op) (.s (.int .i64 (x:Nat))) cmpF (.s (.int .i64 (i:Nat))) (.s (.int .i64 (j:Nat))) h n s→Q (.exit 2) s) :
  ∀ m s,(∃ j n,m=j∧j≤j0∧i≤j+1∧F205_L1111000 (.slice a 0 N c op) (.s (.int .i64 (x:Nat))) cmpF (.s (.int .i64 (i:Nat))) (.s (.int .i64 (j:Nat))) h n s∧∀ p,j<p→p≤j0→kx f L x≤kx f L p) →
   LoopK CC none (subC [1,1,1,1,0,0,0] (bodyOf Tryz.f205)) s Q:=by
 refine loopH CCok _ ?_
 rintro m s ⟨j,n,hm,h1,h2,hs,hI⟩ hlt
 obtain ⟨g,rfl⟩:=hs
 rw [F205_b1111000]
 by_cases hle:i≤j
 ·have e1:wrapF .i64 ((j:Int)-1)=((j-1:Nat):Int):=by rw [wrapF_i64 (by omega) (by omega)]; omega
  have jN:Nat.blt j N=true:=by rw [Nat.blt_eq]; omega
  have xN:Nat.blt x N=true:=by rw [Nat.blt_eq]; omega
  obtain ⟨v,bv,v1,v2,v3,v4,v5,v6,v7,v8,v9⟩:=S.at (show j<N by omega)
  obtain ⟨u,bu,u1,u2,u3,u4,u5,u6,u7,u8,u9⟩:=S.at (show x<N by omega)
  simp [hle,jN,xN,cellsAt,S.get,v1,u1,v6,u6]
  refine compare_ok v4 u4 v5 u5 ?_
  intro z hz z1 z2
  rw [v8,u8] at hz
  by_cases hz0:z<0
  ·simp [hz0,roundQ]
   exact hQ j _ _ h1 h2 hI (fun _=>hz.1 hz0) F205_L1111000_of
  ·simp [hz0,roundQ]
   exact ⟨j-1,by omega,h,fun hok b o hb=>⟨o,hb,hok b o hb⟩,by omega,by omega,⟨_,by rw [e1]; exact F205_L1111000_of⟩,fun p p1 p2=>by
    by_cases hp:p=j
    ·rw [hp]; exact notI.1 fun hh=>hz0 (hz.2 hh)
    ·exact hI p (by omega) p2⟩
 ·simp [hle,roundQ]
  exact hQ j _ _ h1 h2 hI (fun h=>absurd h hle) F205_L1111000_of
theorem partD {x i0 j:Nat} {L:List V} {h:Heap} (hN:N≤1000000000000) (hx:x<i0) (hj:j<N) (hij:i0≤j+1) (S:Srt h0 n0 a N f L h) {Q:X→St→Prop}
  (hQ:∀ (i n:Nat) (s:St),i0≤i→i≤j+1→(∀ p,i0≤p→p<i→kx f L p<kx f L x)→(i≤j→kx f L x≤kx f L i)→F205_L1111111110000000 (.slice a 0 N c op) (.s (.int .i64 (x:Nat))) cmpF (.s (.int .i64 (i:Nat))) (.s (.int .i64 (j:Nat))) h n s→Q (.exit 6) s) :
  ∀ m s,(∃ i n,m=j+1-i∧i0≤i∧i≤j+1∧F205_L1111111110000000 (.slice a 0 N c op) (.s (.int .i64 (x:Nat))) cmpF (.s (.int .i64 (i:Nat))) (.s (.int .i64 (j:Nat))) h n s∧∀ p,i0≤p→p<i→kx f L p<kx f L x) →
   LoopK CC none (subC [1,1,1,1,1,1,1,1,1,0,0,0,0,0,0,0] (bodyOf Tryz.f205)) s Q:=by
 refine loopH CCok _ ?_
 rintro m s ⟨i,n,hm,h1,h2,hs,hI⟩ hlt
 obtain ⟨g,rfl⟩:=hs
 rw [F205_b1111111110000000]
 by_cases hle:i≤j
 ·have e1:wrapF .i64 ((i:Int)+1)=((i+1:Nat):Int):=by rw [wrapF_i64 (by omega) (by omega)]; rfl
  have iN:Nat.blt i N=true:=by rw [Nat.blt_eq]; omega
  have xN:Nat.blt x N=true:=by rw [Nat.blt_eq]; omega
  obtain ⟨v,bv,v1,v2,v3,v4,v5,v6,v7,v8,v9⟩:=S.at (show i<N by omega)
  obtain ⟨u,bu,u1,u2,u3,u4,u5,u6,u7,u8,u9⟩:=S.at (show x<N by omega)
  simp [hle,iN,xN,cellsAt,S.get,v1,u1,v6,u6]
  refine compare_ok v4 u4 v5 u5 ?_
  intro z hz z1 z2
  rw [v8,u8] at hz
  by_cases hz0:z<0
  ·simp [hz0,roundQ]
   exact ⟨j+1-(i+1),by omega,h,fun hok b o hb=>⟨o,hb,hok b o hb⟩,i+1,rfl,by omega,by omega,⟨_,by rw [e1]; exact F205_L1111111110000000_of⟩,fun p p1 p2=>by
    by_cases hp:p=i
    ·rw [hp]; exact hz.1 hz0
    ·exact hI p p1 (by omega)⟩
  ·simp [hz0,roundQ]
   exact hQ i _ _ h1 h2 hI (fun _=>notI.1 fun hh=>hz0 (hz.2 hh)) F205_L1111111110000000_of
 ·simp [hle,roundQ]
  exact hQ i _ _ h1 h2 hI (fun h=>absurd h hle) F205_L1111111110000000_of
theorem partE {x i j0:Nat} {L:List V} {h:Heap} (hN:N≤1000000000000) (hx:x<i) (hj:j0<N) (hij:i≤j0+1) (S:Srt h0 n0 a N f L h) {Q:X→St→Prop}
  (hQ:∀ (j n:Nat) (s:St),j≤j0→i≤j+1→(∀ p,j<p→p≤j0→kx f L x≤kx f L p)→(i≤j→kx f L j<kx f L x)→F205_L11111111100001000 (.slice a 0 N c op) (.s (.int .i64 (x:Nat))) cmpF (.s (.int .i64 (i:Nat))) (.s (.int .i64 (j:Nat))) h n s→Q (.exit 8) s) :
  ∀ m s,(∃ j n,m=j∧j≤j0∧i≤j+1∧F205_L11111111100001000 (.slice a 0 N c op) (.s (.int .i64 (x:Nat))) cmpF (.s (.int .i64 (i:Nat))) (.s (.int .i64 (j:Nat))) h n s∧∀ p,j<p→p≤j0→kx f L x≤kx f L p) →
   LoopK CC none (subC [1,1,1,1,1,1,1,1,1,0,0,0,0,1,0,0,0] (bodyOf Tryz.f205)) s Q:=by
 refine loopH CCok _ ?_
 rintro m s ⟨j,n,hm,h1,h2,hs,hI⟩ hlt
 obtain ⟨g,rfl⟩:=hs
 rw [F205_b11111111100001000]
 by_cases hle:i≤j
 ·have e1:wrapF .i64 ((j:Int)-1)=((j-1:Nat):Int):=by rw [wrapF_i64 (by omega) (by omega)]; omega
  have jN:Nat.blt j N=true:=by rw [Nat.blt_eq]; omega
  have xN:Nat.blt x N=true:=by rw [Nat.blt_eq]; omega
  obtain ⟨v,bv,v1,v2,v3,v4,v5,v6,v7,v8,v9⟩:=S.at (show j<N by omega)
  obtain ⟨u,bu,u1,u2,u3,u4,u5,u6,u7,u8,u9⟩:=S.at (show x<N by omega)
  simp [hle,jN,xN,cellsAt,S.get,v1,u1,v6,u6]
  refine compare_ok v4 u4 v5 u5 ?_
  intro z hz z1 z2
  rw [v8,u8] at hz
  by_cases hz0:z<0
  ·simp [hz0,roundQ]
   exact hQ j _ _ h1 h2 hI (fun _=>hz.1 hz0) F205_L11111111100001000_of
  ·simp [hz0,roundQ]
   exact ⟨j-1,by omega,h,fun hok b o hb=>⟨o,hb,hok b o hb⟩,by omega,by omega,⟨_,by rw [e1]; exact F205_L11111111100001000_of⟩,fun p p1 p2=>by
    by_cases hp:p=j
    ·rw [hp]; exact notI.1 fun hh=>hz0 (hz.2 hh)
    ·exact hI p (by omega) p2⟩
 ·simp [hle,roundQ]
  exact hQ j _ _ h1 h2 hI (fun h=>absurd h hle) F205_L11111111100001000_of
theorem eqA {x i0 j:Nat} {L:List V} {h:Heap} (hN:N≤1000000000000) (hx:x<i0) (hj:j<N) (hij:i0≤j+1) (S:Srt h0 n0 a N f L h) {Q:X→St→Prop}
  (hQ:∀ (i n:Nat) (s:St),i0≤i→i≤j+1→(∀ p,i0≤p→p<i→kx f L p≤kx f L x)→(i≤j→kx f L x<kx f L i)→F204_L1110000000 (.slice a 0 N c op) (.s (.int .i64 (x:Nat))) cmpF (.s (.int .i64 (i:Nat))) (.s (.int .i64 (j:Nat))) h n s→Q (.exit 2) s) :
  ∀ m s,(∃ i n,m=j+1-i∧i0≤i∧i≤j+1∧F204_L1110000000 (.slice a 0 N c op) (.s (.int .i64 (x:Nat))) cmpF (.s (.int .i64 (i:Nat))) (.s (.int .i64 (j:Nat))) h n s∧∀ p,i0≤p→p<i→kx f L p≤kx f L x) →
   LoopK CC none (subC [1,1,1,0,0,0,0,0,0,0] (bodyOf Tryz.f204)) s Q:=by
 refine loopH CCok _ ?_
 rintro m s ⟨i,n,hm,h1,h2,hs,hI⟩ hlt
 obtain ⟨g,rfl⟩:=hs
 rw [F204_b1110000000]
 by_cases hle:i≤j
 ·have e1:wrapF .i64 ((i:Int)+1)=((i+1:Nat):Int):=by rw [wrapF_i64 (by omega) (by omega)]; rfl
  have iN:Nat.blt i N=true:=by rw [Nat.blt_eq]; omega
  have xN:Nat.blt x N=true:=by rw [Nat.blt_eq]; omega
  obtain ⟨v,bv,v1,v2,v3,v4,v5,v6,v7,v8,v9⟩:=S.at (show i<N by omega)
  obtain ⟨u,bu,u1,u2,u3,u4,u5,u6,u7,u8,u9⟩:=S.at (show x<N by omega)
  simp [hle,iN,xN,cellsAt,S.get,v1,u1,v6,u6]
  refine compare_ok u4 v4 u5 v5 ?_
  intro z hz z1 z2
  rw [u8,v8] at hz
  by_cases hz0:z<0
  ·simp [hz0,roundQ]
   exact hQ i _ _ h1 h2 hI (fun _=>hz.1 hz0) F204_L1110000000_of
  ·simp [hz0,roundQ]
   exact ⟨j+1-(i+1),by omega,h,fun hok b o hb=>⟨o,hb,hok b o hb⟩,i+1,rfl,by omega,by omega,⟨_,by rw [e1]; exact F204_L1110000000_of⟩,fun p p1 p2=>by
    by_cases hp:p=i
    ·rw [hp]; exact notI.1 fun hh=>hz0 (hz.2 hh)
    ·exact hI p p1 (by omega)⟩
 ·simp [hle,roundQ]
  exact hQ i _ _ h1 h2 hI (fun h=>absurd h hle) F204_L1110000000_of
theorem eqB {x i j0:Nat} {L:List V} {h:Heap} (hN:N≤1000000000000) (hx:x<i) (hj:j0<N) (hij:i≤j0+1) (S:Srt h0 n0 a N f L h) {Q:X→St→Prop}
  (hQ:∀ (j n:Nat) (s:St),j≤j0→i≤j+1→(∀ p,j<p→p≤j0→kx f L x<kx f L p)→(i≤j→kx f L j≤kx f L x)→F204_L11100001000 (.slice a 0 N c op) (.s (.int .i64 (x:Nat))) cmpF (.s (.int .i64 (i:Nat))) (.s (.int .i64 (j:Nat))) h n s→Q (.exit 4) s) :
  ∀ m s,(∃ j n,m=j∧j≤j0∧i≤j+1∧F204_L11100001000 (.slice a 0 N c op) (.s (.int .i64 (x:Nat))) cmpF (.s (.int .i64 (i:Nat))) (.s (.int .i64 (j:Nat))) h n s∧∀ p,j<p→p≤j0→kx f L x<kx f L p) →
   LoopK CC none (subC [1,1,1,0,0,0,0,1,0,0,0] (bodyOf Tryz.f204)) s Q:=by
 refine loopH CCok _ ?_
 rintro m s ⟨j,n,hm,h1,h2,hs,hI⟩ hlt
 obtain ⟨g,rfl⟩:=hs
 rw [F204_b11100001000]
 by_cases hle:i≤j
 ·have e1:wrapF .i64 ((j:Int)-1)=((j-1:Nat):Int):=by rw [wrapF_i64 (by omega) (by omega)]; omega
  have jN:Nat.blt j N=true:=by rw [Nat.blt_eq]; omega
  have xN:Nat.blt x N=true:=by rw [Nat.blt_eq]; omega
  obtain ⟨v,bv,v1,v2,v3,v4,v5,v6,v7,v8,v9⟩:=S.at (show j<N by omega)
  obtain ⟨u,bu,u1,u2,u3,u4,u5,u6,u7,u8,u9⟩:=S.at (show x<N by omega)
  simp [hle,jN,xN,cellsAt,S.get,v1,u1,v6,u6]
  refine compare_ok u4 v4 u5 v5 ?_
  intro z hz z1 z2
  rw [u8,v8] at hz
  by_cases hz0:z<0
  ·simp [hz0,roundQ]
   exact ⟨j-1,by omega,h,fun hok b o hb=>⟨o,hb,hok b o hb⟩,by omega,by omega,⟨_,by rw [e1]; exact F204_L11100001000_of⟩,fun p p1 p2=>by
    by_cases hp:p=j
    ·rw [hp]; exact hz.1 hz0
    ·exact hI p (by omega) p2⟩
  ·simp [hz0,roundQ]
   exact hQ j _ _ h1 h2 hI (fun _=>notI.1 fun hh=>hz0 (hz.2 hh)) F204_L11100001000_of
 ·simp [hle,roundQ]
  exact hQ j _ _ h1 h2 hI (fun h=>absurd h hle) F204_L11100001000_of
end
end Go.Ev
end
section
namespace Go.Ev
open Proofs
set_option maxRecDepth 20000
section
variable {h0:Heap} {n0 a N:Nat} {f:V→List Int} {op:Bool} {c:Nat}
def EqI (f:V→List Int) (x y i j:Nat) (L:List V):Prop:=(∀ p,x<p→p<i→kx f L p≤kx f L x)∧∀ q,j<q→q<y→kx f L x<kx f L q
theorem eq_loop {x y:Nat} {L0:List V} (hN:N≤1000000000000) (hy:y≤N) {k0:List Int} {Q:X→St→Prop}
  (hQ:∀ i L t12 h n s,x<i→i≤y→F204_L111000 (.slice a 0 N c op) (.s (.int .i64 (x:Nat))) cmpF (.s (.int .i64 (i:Nat))) t12 h n s→Srt h0 n0 a N f L h→PermIn x y L0 L→kx f L x=k0→EqI f x y i (i-1) L→Q (.exit 0) s) :
  ∀ m s,(∃ i j L h n,m=j+1-i∧x<i∧i≤j+1∧j<y∧F204_L111000 (.slice a 0 N c op) (.s (.int .i64 (x:Nat))) cmpF (.s (.int .i64 (i:Nat))) (.s (.int .i64 (j:Nat))) h n s∧Srt h0 n0 a N f L h∧PermIn x y L0 L∧kx f L x=k0∧EqI f x y i j L) →
   LoopK CC none (subC [1,1,1,0,0,0] (bodyOf Tryz.f204)) s Q:=by
 refine loopH CCok _ ?_
 rintro m s ⟨i0,j0,L,h,n,hm,h1,h2,h3,hs,S,hP,hk,hI⟩ hlt
 obtain ⟨g,rfl⟩:=hs
 rw [F204_b111000]
 refine eqA (x:=x) (i0:=i0) (j:=j0) hN h1 (by omega) h2 S ?_ _ _ ⟨i0,n,rfl,by omega,by omega,F204_L1110000000_of,fun p _ _=>by omega⟩
 intro i n1 s i1 i2 iA iB hs
 obtain ⟨g1,rfl⟩:=hs
 rw [F204_r1110000000_2]
 refine eqB (x:=x) (i:=i) (j0:=j0) hN (by omega) (by omega) i2 S ?_ _ _ ⟨j0,n1,rfl,by omega,by omega,F204_L11100001000_of,fun p _ _=>by omega⟩
 intro j n2 s j1 j2 jA jB hs
 obtain ⟨g2,rfl⟩:=hs
 rw [F204_r11100001000_4]
 have hI1:∀ p,x<p→p<i→kx f L p≤kx f L x:=fun p p1 p2=>by
  by_cases hp:p<i0
  ·exact hI.1 p p1 hp
  ·exact iA p (by omega) p2
 have hI2:∀ q,j<q→q<y→kx f L x<kx f L q:=fun q q1 q2=>by
  by_cases hq:j0<q
  ·exact hI.2 q hq q2
  ·exact jA q q1 (by omega)
 by_cases hij:j<i
 ·simp [hij,roundQ]
  refine hQ i L _ h _ _ (by omega) (by omega) F204_L111000_of S hP hk ⟨hI1,fun q q1 q2=>hI2 q (by omega) q2⟩
 ·have hne:i≠j:=by
   rintro rfl
   have a1:=iB (by omega)
   have a2:=jB (by omega)
   exact absurd (leI_lt a1 a2) (notI.2 (leI_refl _))
  have iN:Nat.blt i N=true:=by rw [Nat.blt_eq]; omega
  have jN:Nat.blt j N=true:=by rw [Nat.blt_eq]; omega
  have hl:=S.len
  have e1:wrapF .i64 ((i:Int)+1)=((i+1:Nat):Int):=by rw [wrapF_i64 (by omega) (by omega)]; rfl
  have e2:wrapF .i64 ((j:Int)-1)=((j-1:Nat):Int):=by rw [wrapF_i64 (by omega) (by omega)]; omega
  obtain ⟨v,bv,v1,v2,v3,v4,v5,v6,v7,v8,v9⟩:=S.at (show i<N by omega)
  obtain ⟨u,bu,u1,u2,u3,u4,u5,u6,u7,u8,u9⟩:=S.at (show j<N by omega)
  obtain ⟨ha,hb,s1,s2,S',_⟩:=S.swap (i:=i) (j:=j) (by omega) (by omega) v1 u1
  have ks:=kx_swap f L (i:=i) (j:=j) (by omega) (by omega)
  have kxx:kx f (swap L i j) x=kx f L x:=by rw [ks,if_neg (by omega),if_neg (by omega)]
  simp [hij,iN,jN,cellsAt,S.get,v1,u1,v6,u6,v7,u7,s1,s2,roundQ]
  refine ⟨j-1+1-(i+1),by omega,hb,fun hok b o hb=>⟨o,hb,hok b o hb⟩,i+1,j-1,rfl,by omega,by omega,by omega,_,_,⟨_,by rw [e1,e2]; exact F204_L111000_of⟩,S',hP.trans (PermIn.swap L (by omega) (by omega) (by omega) (by omega) (by omega) (by omega)),by rw [kxx,hk],?_,?_⟩
  ·intro p p1 p2
   rw [kxx,ks,if_neg (by omega)]
   by_cases hp:p=i
   ·rw [if_pos hp]; exact jB (by omega)
   ·rw [if_neg hp]; exact hI1 p p1 (by omega)
  ·intro q q1 q2
   rw [kxx,ks]
   by_cases hq:q=j
   ·rw [if_pos hq]; exact iB (by omega)
   ·rw [if_neg hq,if_neg (by omega)]; exact hI2 q (by omega) q2
def PartEqP (h0:Heap) (n0 a N:Nat) (f:V→List Int) (x y pv:Nat) (L:List V) (v:V) (h':Heap):Prop:=
 ∃ (mid:Nat) (L':List V),v=.s (.int .i64 mid)∧x<mid∧mid≤y∧Srt h0 n0 a N f L' h'∧PermIn x y L L'∧(∀ p,x≤p→p<mid→kx f L' p≤kx f L pv)∧∀ q,mid≤q→q<y→kx f L pv<kx f L' q
theorem partEq_ok {x y pv:Nat} {L:List V} {h:Heap} {n:Nat} (hN:N≤1000000000000) (hx:x≤pv) (hpv:pv<y) (hy:y≤N) (S:Srt h0 n0 a N f L h) :
  CallK CC 204 [.slice a 0 N c op,.s (.int .i64 (x:Nat)),.s (.int .i64 (y:Nat)),.s (.int .i64 (pv:Nat)),cmpF] h n fun v h' n'=>PartEqP h0 n0 a N f x y pv L v h':=by
 refine F204_call fun hlt=>?_
 rw [F204_eq]
 have pN:Nat.blt pv N=true:=by rw [Nat.blt_eq]; omega
 have xN:Nat.blt x N=true:=by rw [Nat.blt_eq]; omega
 have hl:=S.len
 have e1:wrapF .i64 ((x:Int)+1)=((x+1:Nat):Int):=by rw [wrapF_i64 (by omega) (by omega)]; rfl
 have e2:wrapF .i64 ((y:Int)-1)=((y-1:Nat):Int):=by rw [wrapF_i64 (by omega) (by omega)]; omega
 obtain ⟨v,bv,v1,v2,v3,v4,v5,v6,v7,v8,v9⟩:=S.at (show x<N by omega)
 obtain ⟨u,bu,u1,u2,u3,u4,u5,u6,u7,u8,u9⟩:=S.at (show pv<N by omega)
 obtain ⟨ha,hb,s1,s2,S',_⟩:=S.swap (i:=x) (j:=pv) (by omega) (by omega) v1 u1
 have hk:kx f (swap L x pv) x=kx f L pv:=by
  rw [kx_swap f L (by omega) (by omega)]
  by_cases e:x=pv
  ·rw [if_pos e,e]
  ·rw [if_neg e,if_pos rfl]
 simp [pN,xN,cellsAt,S.get,v1,u1,v6,u6,v7,u7,s1,s2]
 refine eq_loop (x:=x) (y:=y) (L0:=L) hN hy ?_ _ _ ⟨x+1,y-1,swap L x pv,hb,_,rfl,by omega,by omega,by omega,by rw [e1,e2]; exact F204_L111000_of,S',PermIn.swap L (by omega) (by omega) (by omega) (by omega) (by omega) (by omega),hk,fun p _ _=>by omega,fun q _ _=>by omega⟩
 intro i L' t12 h' n' s i1 i2 hs S2 P2 hk2 I2
 obtain ⟨g,rfl⟩:=hs
 rw [F204_r111000_0]
 refine ⟨i,L',rfl,i1,i2,S2,P2,fun p p1 p2=>?_,fun q q1 q2=>?_⟩
 ·rw [← hk2]
  by_cases e:p=x
  ·rw [e]; exact leI_refl _
  ·exact I2.1 p (by omega) p2
 ·rw [← hk2]; exact I2.2 q (by omega) q2
end
end Go.Ev
end
section
namespace Go.Ev
open Proofs
set_option maxRecDepth 20000
section
variable {h0:Heap} {n0 a N:Nat} {f:V→List Int} {op:Bool} {c:Nat}
def PvI (f:V→List Int) (x y i j:Nat) (L:List V):Prop:=(∀ p,x<p→p<i→kx f L p≤kx f L x)∧∀ q,j<q→q<y→kx f L x≤kx f L q
theorem PvI.swap {x y i j:Nat} {L:List V} (I:PvI f x y i j L) (hl:y≤L.length) (hx:x<i) (hij:i<j) (hj:j<y) (hi:kx f L x≤kx f L i) (hj':kx f L j<kx f L x) :
  kx f (swap L i j) x=kx f L x∧PvI f x y (i+1) (j-1) (swap L i j):=by
 have ks:=kx_swap f L (i:=i) (j:=j) (by omega) (by omega)
 have kxx:kx f (Go.Ev.swap L i j) x=kx f L x:=by rw [ks,if_neg (by omega),if_neg (by omega)]
 refine ⟨kxx,fun p p1 p2=>?_,fun q q1 q2=>?_⟩
 ·rw [kxx,ks,if_neg (by omega)]
  by_cases hp:p=i
  ·rw [if_pos hp]; exact ltI_le hj'
  ·rw [if_neg hp]; exact I.1 p p1 (by omega)
 ·rw [kxx,ks]
  by_cases hq:q=j
  ·rw [if_pos hq]; exact hi
  ·rw [if_neg hq,if_neg (by omega)]; exact I.2 q (by omega) q2
def PartP (h0:Heap) (n0 a N:Nat) (f:V→List Int) (x y:Nat) (L:List V) (v:V) (h':Heap):Prop:=
 ∃ (mid:Nat) (b:Bool) (L':List V),v=.tup [.s (.int .i64 mid),.s (.bool b)]∧x≤mid∧mid<y∧Srt h0 n0 a N f L' h'∧PermIn x y L L'∧(∀ p,x≤p→p<mid→kx f L' p≤kx f L' mid)∧∀ q,mid<q→q<y→kx f L' mid≤kx f L' q
theorem PvI.fin {x y j:Nat} {L:List V} (I:PvI f x y (j+1) j L) (hl:y≤L.length) (hx:x≤j) (hj:j<y) :
  (∀ p,x≤p→p<j→kx f (Go.Ev.swap L x j) p≤kx f (Go.Ev.swap L x j) j)∧∀ q,j<q→q<y→kx f (Go.Ev.swap L x j) j≤kx f (Go.Ev.swap L x j) q:=by
 have ks:=kx_swap f L (i:=x) (j:=j) (by omega) (by omega)
 refine ⟨fun p p1 p2=>?_,fun q q1 q2=>?_⟩
 ·rw [ks,ks,if_neg (by omega),if_pos rfl]
  by_cases hp:p=x
  ·rw [if_pos hp]; exact I.1 j (by omega) (by omega)
  ·rw [if_neg hp]; exact I.1 p (by omega) (by omega)
 ·rw [ks,ks,if_pos rfl,if_neg (by omega),if_neg (by omega)]
  exact I.2 q q1 q2
theorem part_loop {x y:Nat} {L0:List V} (hN:N≤1000000000000) (hy:y≤N) {Q:X→St→Prop}
  (hQ:∀ j L t12 h n s,x≤j→j<y→F205_L111111111000 (.slice a 0 N c op) (.s (.int .i64 (x:Nat))) cmpF t12 (.s (.int .i64 (j:Nat))) h n s→Srt h0 n0 a N f L h→PermIn x y L0 L→PvI f x y (j+1) j L→Q (.exit 4) s) :
  ∀ m s,(∃ i j L h n,m=j+1-i∧x<i∧i≤j+1∧j<y∧F205_L111111111000 (.slice a 0 N c op) (.s (.int .i64 (x:Nat))) cmpF (.s (.int .i64 (i:Nat))) (.s (.int .i64 (j:Nat))) h n s∧Srt h0 n0 a N f L h∧PermIn x y L0 L∧PvI f x y i j L) →
   LoopK CC none (subC [1,1,1,1,1,1,1,1,1,0,0,0] (bodyOf Tryz.f205)) s Q:=by
 refine loopH CCok _ ?_
 rintro m s ⟨i0,j0,L,h,n,hm,h1,h2,h3,hs,S,hP,hI⟩ hlt
 obtain ⟨g,rfl⟩:=hs
 rw [F205_b111111111000]
 refine partD (x:=x) (i0:=i0) (j:=j0) hN h1 (by omega) h2 S ?_ _ _ ⟨i0,n,rfl,by omega,by omega,F205_L1111111110000000_of,fun p _ _=>by omega⟩
 intro i n1 s i1 i2 iA iB hs
 obtain ⟨g1,rfl⟩:=hs
 rw [F205_r1111111110000000_6]
 refine partE (x:=x) (i:=i) (j0:=j0) hN (by omega) (by omega) i2 S ?_ _ _ ⟨j0,n1,rfl,by omega,by omega,F205_L11111111100001000_of,fun p _ _=>by omega⟩
 intro j n2 s j1 j2 jA jB hs
 obtain ⟨g2,rfl⟩:=hs
 rw [F205_r11111111100001000_8]
 have hI':PvI f x y i j L:=⟨fun p p1 p2=>by
  by_cases hp:p<i0
  ·exact hI.1 p p1 hp
  ·exact ltI_le (iA p (by omega) p2),fun q q1 q2=>by
  by_cases hq:j0<q
  ·exact hI.2 q hq q2
  ·exact jA q q1 (by omega)⟩
 by_cases hij:j<i
 ·have ei:i=j+1:=by omega
  rw [ei] at hI'
  simp [hij,roundQ]
  exact hQ j L _ h _ _ (by omega) (by omega) F205_L111111111000_of S hP hI'
 ·have hne:i≠j:=by
   rintro rfl
   exact absurd (leI_lt' (iB (by omega)) (jB (by omega))) (notI.2 (leI_refl _))
  have iN:Nat.blt i N=true:=by rw [Nat.blt_eq]; omega
  have jN:Nat.blt j N=true:=by rw [Nat.blt_eq]; omega
  have hl:=S.len
  have e1:wrapF .i64 ((i:Int)+1)=((i+1:Nat):Int):=by rw [wrapF_i64 (by omega) (by omega)]; rfl
  have e2:wrapF .i64 ((j:Int)-1)=((j-1:Nat):Int):=by rw [wrapF_i64 (by omega) (by omega)]; omega
  obtain ⟨v,bv,v1,v2,v3,v4,v5,v6,v7,v8,v9⟩:=S.at (show i<N by omega)
  obtain ⟨u,bu,u1,u2,u3,u4,u5,u6,u7,u8,u9⟩:=S.at (show j<N by omega)
  obtain ⟨ha,hb,s1,s2,S',_⟩:=S.swap (i:=i) (j:=j) (by omega) (by omega) v1 u1
  obtain ⟨k1,k2⟩:=hI'.swap (by omega) (by omega) (by omega) (by omega) (iB (by omega)) (jB (by omega))
  simp [hij,iN,jN,cellsAt,S.get,v1,u1,v6,u6,v7,u7,s1,s2,roundQ]
  exact ⟨j-1+1-(i+1),by omega,hb,fun hok b o hb=>⟨o,hb,hok b o hb⟩,i+1,j-1,rfl,by omega,by omega,by omega,_,_,⟨_,by rw [e1,e2]; exact F205_L111111111000_of⟩,S',hP.trans (PermIn.swap L (by omega) (by omega) (by omega) (by omega) (by omega) (by omega)),k2⟩
theorem part_ok {x y pv:Nat} {L:List V} {h:Heap} {n:Nat} (hN:N≤1000000000000) (hx:x≤pv) (hpv:pv<y) (hy:y≤N) (S:Srt h0 n0 a N f L h) :
  CallK CC 205 [.slice a 0 N c op,.s (.int .i64 (x:Nat)),.s (.int .i64 (y:Nat)),.s (.int .i64 (pv:Nat)),cmpF] h n fun v h' n'=>PartP h0 n0 a N f x y L v h':=by
 refine F205_call fun hlt=>?_
 rw [F205_eq]
 have pN:Nat.blt pv N=true:=by rw [Nat.blt_eq]; omega
 have xN:Nat.blt x N=true:=by rw [Nat.blt_eq]; omega
 have hl:=S.len
 have e1:wrapF .i64 ((x:Int)+1)=((x+1:Nat):Int):=by rw [wrapF_i64 (by omega) (by omega)]; rfl
 have e2:wrapF .i64 ((y:Int)-1)=((y-1:Nat):Int):=by rw [wrapF_i64 (by omega) (by omega)]; omega
 obtain ⟨v,bv,v1,v2,v3,v4,v5,v6,v7,v8,v9⟩:=S.at (show x<N by omega)
 obtain ⟨u,bu,u1,u2,u3,u4,u5,u6,u7,u8,u9⟩:=S.at (show pv<N by omega)
 obtain ⟨ha,hb,s1,s2,S1,_⟩:=S.swap (i:=x) (j:=pv) (by omega) (by omega) v1 u1
 have P1:PermIn x y L (swap L x pv):=PermIn.swap L (by omega) (by omega) (by omega) (by omega) (by omega) (by omega)
 simp [pN,xN,cellsAt,S.get,v1,u1,v6,u6,v7,u7,s1,s2]
 clear s1 s2 v1 v2 v3 v4 v5 v6 v7 v8 v9 u1 u2 u3 u4 u5 u6 u7 u8 u9
 generalize swap L x pv=M at S1 P1
 have hlM:=S1.len
 refine partA (x:=x) (i0:=x+1) (j:=y-1) hN (by omega) (by omega) (by omega) S1 ?_ _ _ ⟨x+1,_,rfl,by omega,by omega,by rw [e1,e2]; exact F205_L111000_of,fun p _ _=>by omega⟩
 intro i n1 s i1 i2 iA iB hs
 obtain ⟨g1,rfl⟩:=hs
 rw [F205_r111000_0]
 refine partB (x:=x) (i:=i) (j0:=y-1) hN (by omega) (by omega) i2 S1 ?_ _ _ ⟨y-1,n1,rfl,by omega,by omega,F205_L1111000_of,fun p _ _=>by omega⟩
 intro j n2 s j1 j2 jA jB hs
 obtain ⟨g2,rfl⟩:=hs
 rw [F205_r1111000_2]
 have hI':PvI f x y i j M:=⟨fun p p1 p2=>ltI_le (iA p (by omega) p2),fun q q1 q2=>jA q q1 (by omega)⟩
 have jN:Nat.blt j N=true:=by rw [Nat.blt_eq]; omega
 obtain ⟨u,bu,u1,u2,u3,u4,u5,u6,u7,u8,u9⟩:=S1.at (show j<N by omega)
 by_cases hij:j<i
 ·have ei:i=j+1:=by omega
  rw [ei] at hI'
  obtain ⟨v,bv,v1,v2,v3,v4,v5,v6,v7,v8,v9⟩:=S1.at (show x<N by omega)
  obtain ⟨ha,hb,s1,s2,S2,_⟩:=S1.swap (i:=j) (j:=x) (by omega) (by omega) u1 v1
  have hf:=hI'.fin (by omega) (by omega) (by omega)
  simp [hij,jN,xN,cellsAt,S1.get,v1,u1,v6,u6,v7,u7,s1,s2]
  refine ⟨j,true,_,rfl,by omega,by omega,S2,P1.trans (PermIn.swap M (by omega) (by omega) (by omega) (by omega) (by omega) (by omega)),?_⟩
  rw [swap_comm]
  exact hf
 ·have hne:i≠j:=by
   rintro rfl
   exact absurd (leI_lt' (iB (by omega)) (jB (by omega))) (notI.2 (leI_refl _))
  have iN:Nat.blt i N=true:=by rw [Nat.blt_eq]; omega
  have e1:wrapF .i64 ((i:Int)+1)=((i+1:Nat):Int):=by rw [wrapF_i64 (by omega) (by omega)]; rfl
  have e2:wrapF .i64 ((j:Int)-1)=((j-1:Nat):Int):=by rw [wrapF_i64 (by omega) (by omega)]; omega
  obtain ⟨v,bv,v1,v2,v3,v4,v5,v6,v7,v8,v9⟩:=S1.at (show i<N by omega)
  obtain ⟨ha,hb,s1,s2,S2,_⟩:=S1.swap (i:=i) (j:=j) (by omega) (by omega) v1 u1
  obtain ⟨k1,k2⟩:=hI'.swap (by omega) (by omega) (by omega) (by omega) (iB (by omega)) (jB (by omega))
  simp [hij,iN,jN,cellsAt,S1.get,v1,u1,v6,u6,v7,u7,s1,s2]
  refine part_loop (x:=x) (y:=y) (L0:=L) hN hy ?_ _ _ ⟨i+1,j-1,swap M i j,hb,_,rfl,by omega,by omega,by omega,by rw [e1,e2]; exact F205_L111111111000_of,S2,P1.trans (PermIn.swap M (by omega) (by omega) (by omega) (by omega) (by omega) (by omega)),k2⟩
  intro q L' t12 h' n' s q1 q2 hs S3 P3 I3
  obtain ⟨g,rfl⟩:=hs
  rw [F205_r111111111000_4]
  have hl3:=S3.len
  have qN:Nat.blt q N=true:=by rw [Nat.blt_eq]; omega
  obtain ⟨u,bu,u1,u2,u3,u4,u5,u6,u7,u8,u9⟩:=S3.at (show q<N by omega)
  obtain ⟨v,bv,v1,v2,v3,v4,v5,v6,v7,v8,v9⟩:=S3.at (show x<N by omega)
  obtain ⟨ha,hb,s1,s2,S4,_⟩:=S3.swap (i:=q) (j:=x) (by omega) (by omega) u1 v1
  have hf:=I3.fin (by omega) (by omega) (by omega)
  simp [qN,xN,cellsAt,S3.get,v1,u1,v6,u6,v7,u7,s1,s2]
  refine ⟨q,false,_,rfl,by omega,by omega,S4,P3.trans (PermIn.swap L' (by omega) (by omega) (by omega) (by omega) (by omega) (by omega)),?_⟩
  rw [swap_comm]
  exact hf
end
end Go.Ev
end
section
namespace Go.Ev
open Proofs
set_option maxRecDepth 20000
section
variable {h0:Heap} {n0 a N:Nat} {f:V→List Int} {op:Bool} {c:Nat}
theorem SortedIn.succ {x i:Nat} {L:List V} (H:SortedIn f x i L) (h:x<i→kx f L (i-1)≤kx f L i):SortedIn f x (i+1) L:=by
 intro p q p1 p2 p3
 by_cases hq:q=i
 ·subst hq
  by_cases hp:p=q-1
  ·rw [hp]; exact h (by omega)
  ·exact leI_trans (H p (q-1) p1 (by omega) (by omega)) (h (by omega))
 ·exact H p q p1 p2 (by omega)
theorem pi_scan {x y i0:Nat} {L:List V} {h:Heap} {t10:V} (hN:N≤1000000000000) (hx:x<i0) (hy:y≤N) (hi0:i0≤y) (S:Srt h0 n0 a N f L h) {Q:X→St→Prop}
  (hQ:∀ (i n:Nat) (s:St),i0≤i→i≤y→SortedIn f x i L→(i<y→kx f L i<kx f L (i-1))→F203_L110100100000 (.slice a 0 N c op) (.s (.int .i64 (x:Nat))) (.s (.int .i64 (y:Nat))) cmpF (.s (.int .i64 (i:Nat))) t10 h n s→Q (.exit 2) s) :
  ∀ m s,(∃ i n,m=y-i∧i0≤i∧i≤y∧F203_L110100100000 (.slice a 0 N c op) (.s (.int .i64 (x:Nat))) (.s (.int .i64 (y:Nat))) cmpF (.s (.int .i64 (i:Nat))) t10 h n s∧SortedIn f x i L) →
   LoopK CC none (subC [1,1,0,1,0,0,1,0,0,0,0,0] (bodyOf Tryz.f203)) s Q:=by
 refine loopH CCok _ ?_
 rintro m s ⟨i,n,hm,h1,h2,hs,hI⟩ hlt
 obtain ⟨g,rfl⟩:=hs
 rw [F203_b110100100000]
 by_cases hle:i<y
 ·obtain ⟨k,hk⟩:∃ k,k=i-1:=⟨_,rfl⟩
  have e1:wrapF .i64 ((i:Int)+1)=((i+1:Nat):Int):=by rw [wrapF_i64 (by omega) (by omega)]; rfl
  have e2:wrapF .i64 ((i:Int)-1)=(k:Int):=by rw [wrapF_i64 (by omega) (by omega)]; omega
  have iN:Nat.blt i N=true:=by rw [Nat.blt_eq]; omega
  have kN:Nat.blt k N=true:=by rw [Nat.blt_eq]; omega
  obtain ⟨v,bv,v1,v2,v3,v4,v5,v6,v7,v8,v9⟩:=S.at (show i<N by omega)
  obtain ⟨u,bu,u1,u2,u3,u4,u5,u6,u7,u8,u9⟩:=S.at (show k<N by omega)
  simp [hle,e2,iN,kN,cellsAt,S.get,v1,u1,v6,u6]
  refine compare_ok v4 u4 v5 u5 ?_
  intro z hz z1 z2
  rw [v8,u8] at hz
  by_cases hz0:z<0
  ·simp [hz0,roundQ]
   exact hQ i _ _ h1 h2 hI (fun _=>by rw [← hk]; exact hz.1 hz0) F203_L110100100000_of
  ·simp [hz0,roundQ]
   exact ⟨y-(i+1),by omega,h,fun hok b o hb=>⟨o,hb,hok b o hb⟩,i+1,rfl,by omega,by omega,⟨_,by rw [e1]; exact F203_L110100100000_of⟩,hI.succ fun _=>by rw [← hk]; exact notI.1 fun hh=>hz0 (hz.2 hh)⟩
 ·simp [hle,roundQ]
  exact hQ i _ _ h1 h2 hI (fun h=>absurd h hle) F203_L110100100000_of
theorem pi_left {x y i:Nat} {L0:List V} {t1 t10:V} (hN:N≤1000000000000) (hxi:x≤i) (hiy:i<y) (hy:y≤N) (hpre:0<x→∀ p,x≤p→p<y→kx f L0 (x-1)≤kx f L0 p) {t9:V} {Q:X→St→Prop}
  (hQ:∀ t11 L h n s,F203_L1101001001111010100 (.slice a 0 N c op) t1 (.s (.int .i64 (y:Nat))) cmpF t9 t10 t11 h n s→Srt h0 n0 a N f L h→PermIn x (i+1) L0 L→SortedIn f x (i+1) L→Q (.exit 4) s) :
  ∀ m s,(∃ j L h n,m=j∧x≤j∧j≤i∧F203_L1101001001111010100 (.slice a 0 N c op) t1 (.s (.int .i64 (y:Nat))) cmpF t9 t10 (.s (.int .i64 (j:Nat))) h n s∧Srt h0 n0 a N f L h∧PermIn x (i+1) L0 L∧∀ p q,x≤p→p<q→q≤i→q≠j→kx f L p≤kx f L q) →
   LoopK CC none (subC [1,1,0,1,0,0,1,0,0,1,1,1,1,0,1,0,1,0,0] (bodyOf Tryz.f203)) s Q:=by
 refine loopH CCok _ ?_
 rintro m s ⟨j,L,h,n,hm,h1,h2,hs,S,hP,hI⟩ hlt
 obtain ⟨g,rfl⟩:=hs
 rw [F203_b1101001001111010100]
 have hl:=S.len
 by_cases hj:1≤j
 ·obtain ⟨k,hk⟩:∃ k,k=j-1:=⟨_,rfl⟩
  have hj':(1:Int)≤(j:Int):=by omega
  have e1:wrapF .i64 ((j:Int)-1)=((k:Nat):Int):=by rw [wrapF_i64 (by omega) (by omega)]; omega
  obtain ⟨v,b,v1,v2,v3,v4,v5,v6,v7,v8,v9⟩:=S.at (show j<N by omega)
  obtain ⟨w,d,w1,w2,w3,w4,w5,w6,w7,w8,w9⟩:=S.at (show k<N by omega)
  have jN:Nat.blt j N=true:=by rw [Nat.blt_eq]; omega
  have kN:Nat.blt k N=true:=by rw [Nat.blt_eq]; omega
  simp [hj',e1,jN,kN,cellsAt,S.get,v1,w1,v6,w6]
  refine compare_ok v4 w4 v5 w5 ?_
  intro z hz z1 z2
  rw [v8,w8] at hz
  by_cases hz0:z<0
  ·obtain ⟨ha,hb,s1,s2,S',_⟩:=S.swap (i:=j) (j:=k) (by omega) (by omega) v1 w1
   have hlt':=hz.1 hz0
   have hxj:x<j:=by
    apply Nat.lt_of_le_of_ne h1
    intro e
    have hp:=hpre (by omega)
    have hp':∀ p,x≤p→p<i+1→kx f L0 (x-1)≤kx f L p:=hP.allK (P:=fun k=>kx f L0 (x-1)≤k) (by have:=hP.len; omega) fun p p1 p2=>hp p p1 (by omega)
    have h3:=hp' j (by omega) (by omega)
    rw [← hP.outK (.inl (by omega)),show x-1=k by omega] at h3
    exact absurd hlt' (notI.2 h3)
   have P2:=PermIn.swap L (x:=x) (y:=i+1) (i:=j) (j:=k) (by omega) (by omega) (by omega) (by omega) (by omega) (by omega)
   simp [hz0,S.get,v1,w1,v6,w6,v7,w7,s1,s2,roundQ]
   refine ⟨k,by omega,hb,fun hok b o hb'=>⟨o,hb',hok b o hb'⟩,by omega,by omega,_,_,⟨_,F203_L1101001001111010100_of⟩,S',hP.trans P2,?_⟩
   intro p q p1 p2 p3 p4
   rw [kx_swap f L (by omega) (by omega),kx_swap f L (by omega) (by omega)]
   rw [if_neg p4]
   by_cases q1:q=j
   ·rw [if_pos q1]
    by_cases q2:p=k
    ·rw [if_pos q2]; exact ltI_le hlt'
    ·rw [if_neg q2,if_neg (by omega)]
     exact hI p k p1 (by omega) (by omega) (by omega)
   ·rw [if_neg q1]
    by_cases q2:p=k
    ·rw [if_pos q2]; exact hI j q (by omega) (by omega) p3 q1
    ·rw [if_neg q2]
     by_cases q3:p=j
     ·rw [if_pos q3]; exact hI k q (by omega) (by omega) p3 q1
     ·rw [if_neg q3]; exact hI p q p1 p2 p3 q1
  ·have hz1:kx f L k≤kx f L j:=notI.1 fun h=>hz0 (hz.2 h)
   simp [hz0,roundQ]
   refine hQ _ L h _ _ F203_L1101001001111010100_of S hP fun p q p1 p2 p3=>?_
   by_cases q1:q=j
   ·subst q1
    by_cases q2:p=k
    ·rw [q2]; exact hz1
    ·exact leI_trans (hI p k p1 (by omega) (by omega) (by omega)) hz1
   ·exact hI p q p1 p2 (by omega) q1
 ·have hj':¬ (1:Int)≤(j:Int):=by omega
  simp [hj',roundQ]
  refine hQ _ L h _ _ F203_L1101001001111010100_of S hP fun p q p1 p2 p3=>hI p q p1 p2 (by omega) (by omega)
theorem pi_right {i y:Nat} {L0:List V} {t1 t9 t10:V} (hN:N≤1000000000000) (hi:i<y) (hy:y≤N) {Q:X→St→Prop}
  (hQ:∀ t12 L h n s,F203_L1101001001111110100 (.slice a 0 N c op) t1 (.s (.int .i64 (y:Nat))) cmpF t9 t10 t12 h n s→Srt h0 n0 a N f L h→PermIn i y L0 L→Q (.exit 6) s) :
  ∀ m s,(∃ j L h n,m=y-j∧i<j∧F203_L1101001001111110100 (.slice a 0 N c op) t1 (.s (.int .i64 (y:Nat))) cmpF t9 t10 (.s (.int .i64 (j:Nat))) h n s∧Srt h0 n0 a N f L h∧PermIn i y L0 L) →
   LoopK CC none (subC [1,1,0,1,0,0,1,0,0,1,1,1,1,1,1,0,1,0,0] (bodyOf Tryz.f203)) s Q:=by
 refine loopH CCok _ ?_
 rintro m s ⟨j,L,h,n,hm,h1,hs,S,hP⟩ hlt
 obtain ⟨g,rfl⟩:=hs
 rw [F203_b1101001001111110100]
 have hl:=S.len
 by_cases hj:j<y
 ·obtain ⟨k,hk⟩:∃ k,k=j-1:=⟨_,rfl⟩
  have e1:wrapF .i64 ((j:Int)-1)=((k:Nat):Int):=by rw [wrapF_i64 (by omega) (by omega)]; omega
  have e2:wrapF .i64 ((j:Int)+1)=((j+1:Nat):Int):=by rw [wrapF_i64 (by omega) (by omega)]; rfl
  obtain ⟨v,b,v1,v2,v3,v4,v5,v6,v7,v8,v9⟩:=S.at (show j<N by omega)
  obtain ⟨w,d,w1,w2,w3,w4,w5,w6,w7,w8,w9⟩:=S.at (show k<N by omega)
  have jN:Nat.blt j N=true:=by rw [Nat.blt_eq]; omega
  have kN:Nat.blt k N=true:=by rw [Nat.blt_eq]; omega
  simp [hj,e1,jN,kN,cellsAt,S.get,v1,w1,v6,w6]
  refine compare_ok v4 w4 v5 w5 ?_
  intro z hz z1 z2
  by_cases hz0:z<0
  ·obtain ⟨ha,hb,s1,s2,S',_⟩:=S.swap (i:=j) (j:=k) (by omega) (by omega) v1 w1
   have P2:=PermIn.swap L (x:=i) (y:=y) (i:=j) (j:=k) (by omega) (by omega) (by omega) (by omega) (by omega) (by omega)
   simp [hz0,S.get,v1,w1,v6,w6,v7,w7,s1,s2,roundQ]
   exact ⟨y-(j+1),by omega,hb,fun hok b o hb'=>⟨o,hb',hok b o hb'⟩,j+1,rfl,by omega,_,_,⟨_,by rw [e2]; exact F203_L1101001001111110100_of⟩,S',hP.trans P2⟩
  ·simp [hz0,roundQ]
   exact hQ _ L h _ _ F203_L1101001001111110100_of S hP
 ·simp [hj,roundQ]
  exact hQ _ L h _ _ F203_L1101001001111110100_of S hP
end
end Go.Ev
end
section
namespace Go.Ev
open Proofs
set_option maxRecDepth 20000
section
variable {h0:Heap} {n0 a N:Nat} {f:V→List Int} {op:Bool} {c:Nat}
def PredI (f:V→List Int) (x y:Nat) (L:List V):Prop:=0<x→∀ p,x≤p→p<y→kx f L (x-1)≤kx f L p
theorem PredI.perm {x y:Nat} {L L':List V} (H:PredI f x y L) (P:PermIn x y L L') (hy:y≤L.length):PredI f x y L':=fun h0=>by
 rw [P.outK (.inl (by omega))]
 exact P.allK (P:=fun k=>kx f L (x-1)≤k) hy (H h0)
def PInsP (h0:Heap) (n0 a N:Nat) (f:V→List Int) (x y:Nat) (L:List V) (v:V) (h':Heap):Prop:=
 ∃ (b:Bool) (L':List V),v=.s (.bool b)∧Srt h0 n0 a N f L' h'∧PermIn x y L L'∧(b=true→SortedIn f x y L')
theorem SortedIn.out {x i y:Nat} {L L':List V} (H:SortedIn f x i L) (P:PermIn i y L L'):SortedIn f x i L':=fun p q p1 p2 p3=>by
 rw [P.outK (.inl (by omega)),P.outK (.inl (by omega))]
 exact H p q p1 p2 p3
set_option maxHeartbeats 1600000 in
theorem pi_loop {x y:Nat} {L0:List V} (hN:N≤1000000000000) (hy:y≤N) (hpre:PredI f x y L0) {Q:X→St→Prop}
  (hQ0:∀ t9 t10 L h n s,F203_L110100 (.slice a 0 N c op) (.s (.int .i64 (x:Nat))) (.s (.int .i64 (y:Nat))) cmpF t9 t10 h n s→Srt h0 n0 a N f L h→PermIn x y L0 L→Q (.exit 0) s)
  (hQ1:∀ h n (T:List V) v,T[8]? = some v→PInsP h0 n0 a N f x y L0 v h→Q .ret ⟨mkTm T,h,n,[]⟩) :
  ∀ m s,(∃ i r L h n,m=5-r∧r≤5∧x<i∧i≤y∧F203_L110100 (.slice a 0 N c op) (.s (.int .i64 (x:Nat))) (.s (.int .i64 (y:Nat))) cmpF (.s (.int .i64 (i:Nat))) (.s (.int .i64 (r:Nat))) h n s∧Srt h0 n0 a N f L h∧PermIn x y L0 L∧SortedIn f x i L) →
   LoopK CC none (subC [1,1,0,1,0,0] (bodyOf Tryz.f203)) s Q:=by
 refine loopH CCok _ ?_
 rintro m s ⟨i0,r,L,h,n,hm,hr,h1,h2,hs,S,hP,hI⟩ hlt
 obtain ⟨g,rfl⟩:=hs
 rw [F203_b110100]
 by_cases hr5:r<5
 ·have hr':(r:Int)<5:=by omega
  simp [hr']
  refine pi_scan (x:=x) (y:=y) (i0:=i0) hN h1 hy h2 S ?_ _ _ ⟨i0,n,rfl,by omega,by omega,F203_L110100100000_of,hI⟩
  intro i n1 s i1 i2 hI1 hlt1 hs
  obtain ⟨g1,rfl⟩:=hs
  rw [F203_r110100100000_2]
  by_cases hiy:i=y
  ·simp [hiy,roundQ]
   exact hQ1 _ _ _ _ rfl ⟨true,L,rfl,S,hP,fun _=>by rw [← hiy]; exact hI1⟩
  ·obtain ⟨l,hl⟩:∃ l,l=y-x:=⟨_,rfl⟩
   have e0:wrapF .i64 ((y:Int)-(x:Int))=(l:Int):=by rw [wrapF_i64 (by omega) (by omega)]; omega
   have hiy':¬ (i:Int)=(y:Int):=by omega
   by_cases hl50:(l:Int)<50
   ·simp [hiy',e0,hl50,roundQ]
    exact hQ1 _ _ _ _ rfl ⟨false,L,rfl,S,hP,fun h=>by cases h⟩
   ·obtain ⟨k,hk⟩:∃ k,k=i-1:=⟨_,rfl⟩
    obtain ⟨d1,hd1⟩:∃ d1,d1=i-x:=⟨_,rfl⟩
    obtain ⟨d2,hd2⟩:∃ d2,d2=y-i:=⟨_,rfl⟩
    have e1:wrapF .i64 ((i:Int)-1)=(k:Int):=by rw [wrapF_i64 (by omega) (by omega)]; omega
    have e2:wrapF .i64 ((i:Int)-(x:Int))=(d1:Int):=by rw [wrapF_i64 (by omega) (by omega)]; omega
    have e3:wrapF .i64 ((y:Int)-(i:Int))=(d2:Int):=by rw [wrapF_i64 (by omega) (by omega)]; omega
    have e4:wrapF .i64 ((i:Int)+1)=((i+1:Nat):Int):=by rw [wrapF_i64 (by omega) (by omega)]; rfl
    have e5:wrapF .i64 ((r:Int)+1)=((r+1:Nat):Int):=by rw [wrapF_i64 (by omega) (by omega)]; rfl
    have iN:Nat.blt i N=true:=by rw [Nat.blt_eq]; omega
    have kN:Nat.blt k N=true:=by rw [Nat.blt_eq]; omega
    have hlL:=S.len
    obtain ⟨v,bv,v1,v2,v3,v4,v5,v6,v7,v8,v9⟩:=S.at (show i<N by omega)
    obtain ⟨u,bu,u1,u2,u3,u4,u5,u6,u7,u8,u9⟩:=S.at (show k<N by omega)
    obtain ⟨ha,hb,s1,s2,S1,_⟩:=S.swap (i:=i) (j:=k) (by omega) (by omega) v1 u1
    have P1:=PermIn.swap L (x:=x) (y:=y) (i:=i) (j:=k) (by omega) (by omega) (by omega) (by omega) (by omega) (by omega)
    have hI2:∀ p q,x≤p→p<q→q≤k→q≠k→kx f (swap L i k) p≤kx f (swap L i k) q:=fun p q p1 p2 p3 p4=>by
     rw [kx_swap f L (by omega) (by omega),kx_swap f L (by omega) (by omega),if_neg (by omega),if_neg (by omega),if_neg (by omega),if_neg (by omega)]
     exact hI1 p q p1 p2 (by omega)
    simp [hiy',e0,hl50,e1,iN,kN,cellsAt,S.get,v1,u1,v6,u6,v7,u7,s1,s2,e2,e3]
    by_cases c1:(2:Int)≤(d1:Int)
    ·simp [c1]
     have hpre1:PredI f x y (swap L i k):=(hpre.perm hP (by have:=hP.len; omega)).perm P1 (by omega)
     refine pi_left (x:=x) (y:=y) (i:=k) (L0:=swap L i k) hN (by omega) (by omega) hy hpre1 ?_ _ _ ⟨k,swap L i k,hb,_,rfl,by omega,by omega,F203_L1101001001111010100_of,S1,PermIn.refl _ _ _,hI2⟩
     intro t11 L2 h2 n2 s hs S2 P2 hS2
     obtain ⟨g2,rfl⟩:=hs
     rw [F203_r1101001001111010100_4]
     rw [show k+1=i by omega] at hS2
     have hP2:PermIn x y L0 L2:=(hP.trans P1).trans (P2.mono (by omega) (by omega))
     simp [e3]
     by_cases c2:(2:Int)≤(d2:Int)
     ·simp [c2]
      refine pi_right (i:=i) (y:=y) (L0:=L2) hN (by omega) hy ?_ _ _ ⟨i+1,L2,h2,_,rfl,by omega,by rw [e4]; exact F203_L1101001001111110100_of,S2,PermIn.refl _ _ _⟩
      intro t12 L3 h3 n3 s hs S3 P3
      obtain ⟨g3,rfl⟩:=hs
      rw [F203_r1101001001111110100_6]
      simp [roundQ]
      exact ⟨5-(r+1),by omega,h3,fun hok b o hb=>⟨o,hb,hok b o hb⟩,i,r+1,rfl,by omega,by omega,by omega,L3,_,⟨_,by rw [e5]; exact F203_L110100_of⟩,S3,(hP2.trans (P3.mono (by omega) (Nat.le_refl _))),(hS2.out P3)⟩
     ·simp [c2,roundQ]
      exact ⟨5-(r+1),by omega,h2,fun hok b o hb=>⟨o,hb,hok b o hb⟩,i,r+1,rfl,by omega,by omega,by omega,L2,_,⟨_,by rw [e5]; exact F203_L110100_of⟩,S2,hP2,hS2⟩
    ·simp [c1]
     have hP2:PermIn x y L0 (swap L i k):=hP.trans P1
     have hS2:SortedIn f x i (swap L i k):=fun p q p1 p2 p3=>by omega
     by_cases c2:(2:Int)≤(d2:Int)
     ·simp [c2]
      refine pi_right (i:=i) (y:=y) (L0:=(swap L i k)) hN (by omega) hy ?_ _ _ ⟨i+1,(swap L i k),hb,_,rfl,by omega,by rw [e4]; exact F203_L1101001001111110100_of,S1,PermIn.refl _ _ _⟩
      intro t12 L3 h3 n3 s hs S3 P3
      obtain ⟨g3,rfl⟩:=hs
      rw [F203_r1101001001111110100_6]
      simp [roundQ]
      exact ⟨5-(r+1),by omega,h3,fun hok b o hb=>⟨o,hb,hok b o hb⟩,i,r+1,rfl,by omega,by omega,by omega,L3,_,⟨_,by rw [e5]; exact F203_L110100_of⟩,S3,(hP2.trans (P3.mono (by omega) (Nat.le_refl _))),(hS2.out P3)⟩
     ·simp [c2,roundQ]
      exact ⟨5-(r+1),by omega,hb,fun hok b o hb=>⟨o,hb,hok b o hb⟩,i,r+1,rfl,by omega,by omega,by omega,(swap L i k),_,⟨_,by rw [e5]; exact F203_L110100_of⟩,S1,hP2,hS2⟩
 ·have hr':¬ (r:Int)<5:=by omega
  simp [hr',roundQ]
  exact hQ0 _ _ L h _ _ F203_L110100_of S hP
theorem pins_ok {x y:Nat} {L:List V} {h:Heap} {n:Nat} (hN:N≤1000000000000) (hx:x<y) (hy:y≤N) (S:Srt h0 n0 a N f L h) (hpre:PredI f x y L) :
  CallK CC 203 [.slice a 0 N c op,.s (.int .i64 (x:Nat)),.s (.int .i64 (y:Nat)),cmpF] h n fun v h' n'=>PInsP h0 n0 a N f x y L v h':=by
 refine F203_call fun hlt=>?_
 rw [F203_eq]
 have e1:wrapF .i64 ((x:Int)+1)=((x+1:Nat):Int):=by rw [wrapF_i64 (by omega) (by omega)]; rfl
 simp
 refine pi_loop (x:=x) (y:=y) (L0:=L) hN hy hpre ?_ ?_ _ _ ⟨x+1,0,L,h,n,rfl,by omega,by omega,by omega,by rw [e1]; exact F203_L110100_of,S,PermIn.refl _ _ _,fun p q _ _ _=>by omega⟩
 ·intro t9 t10 L' h' n' s hs S' P'
  obtain ⟨g,rfl⟩:=hs
  rw [F203_r110100_0]
  exact ⟨false,L',rfl,S',P',fun h=>by cases h⟩
 ·intro h' n' T v hT hp
  simp [resume,retW,dropDefs,hT]
  exact hp
end
end Go.Ev
end
