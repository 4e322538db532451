import Derived.Test.YtaigdhieijndgaaGreatMQ20
import Derived.Test.YtaigdhieijndgaaGreatRI2
import Derived.Test.YtaigdhieijndgaaGreatEQ13
section
namespace Go.Ev
open Proofs
set_option maxRecDepth 20000
section
variable {h0:Heap} {n0 a N:Nat} {f:V→List Int} {op:Bool} {c:Nat}
def DoneI (f:V→List Int) (X Y x y:Nat) (L:List V):Prop:=∀ p q,X≤p→p<q→q<Y→(p<x∨y≤q)→kx f L p≤kx f L q
theorem DoneI.perm {X Y x y:Nat} {L L':List V} (D:DoneI f X Y x y L) (P:PermIn x y L L') (hl:y≤L.length) (hX:X≤x) (hY:y≤Y):DoneI f X Y x y L':=by
 intro p q h1 h2 h3 h4
 by_cases hp:x≤p∧p<y
 ·rw [P.outK (p:=q) (by omega)]
  exact P.allK (P:=fun k=>k≤kx f L q) hl (fun p' a1 a2=>D p' q (by omega) (by omega) h3 (by omega)) p hp.1 hp.2
 ·rw [P.outK (p:=p) (by omega)]
  by_cases hq:x≤q∧q<y
  ·exact P.allK (P:=fun k=>kx f L p≤k) hl (fun q' a1 a2=>D p q' h1 (by omega) (by omega) (by omega)) q hq.1 hq.2
  ·rw [P.outK (p:=q) (by omega)]
   exact D p q h1 h2 h3 (by omega)
theorem DoneI.fin {X Y x y:Nat} {L:List V} (D:DoneI f X Y x y L) (H:SortedIn f x y L):SortedIn f X Y L:=by
 intro p q h1 h2 h3
 by_cases hc:p<x∨y≤q
 ·exact D p q h1 h2 h3 hc
 ·exact H p q (by omega) h2 (by omega)
theorem DoneI.left {X Y x y mid:Nat} {L L':List V} (D:DoneI f X Y x y L) (hl:y≤L.length) (hX:X≤x) (hY:y≤Y) (m1:x≤mid) (m2:mid<y)
  (r1:∀ p,x≤p→p<mid→kx f L p≤kx f L mid) (r2:∀ q,mid<q→q<y→kx f L mid≤kx f L q) (P:PermIn x mid L L') (H:SortedIn f x mid L') :
  DoneI f X Y (mid+1) y L'∧PredI f (mid+1) y L':=by
 have D':=D.perm (P.mono (Nat.le_refl _) (Nat.le_of_lt m2)) hl hX hY
 have em:kx f L' mid=kx f L mid:=P.outK (.inr (Nat.le_refl _))
 have r1':∀ p,x≤p→p<mid→kx f L' p≤kx f L' mid:=by
  rw [em]
  exact P.allK (P:=fun k=>k≤kx f L mid) (by omega) r1
 have r2':∀ q,mid<q→q<y→kx f L' mid≤kx f L' q:=fun q a1 a2=>by
  rw [em,P.outK (p:=q) (.inr (by omega))]
  exact r2 q a1 a2
 refine ⟨fun p q h1 h2 h3 h4=>?_,fun _ p a1 a2=>r2' p (by omega) a2⟩
 by_cases hc:p<x∨y≤q
 ·exact D' p q h1 h2 h3 hc
 ·by_cases hq:q<mid
  ·exact H p q (by omega) h2 hq
  ·have hpm:p<mid+1:=by omega
   by_cases hq2:q=mid
   ·rw [hq2]; exact r1' p (by omega) (by omega)
   ·have h5:=r2' q (by omega) (by omega)
    by_cases hp:p=mid
    ·rw [hp]; exact h5
    ·exact leI_trans (r1' p (by omega) (by omega)) h5
theorem DoneI.right {X Y x y mid:Nat} {L L':List V} (D:DoneI f X Y x y L) (pre:PredI f x y L) (hl:y≤L.length) (hX:X≤x) (hY:y≤Y) (m1:x≤mid) (m2:mid<y)
  (r1:∀ p,x≤p→p<mid→kx f L p≤kx f L mid) (r2:∀ q,mid<q→q<y→kx f L mid≤kx f L q) (P:PermIn (mid+1) y L L') (H:SortedIn f (mid+1) y L') :
  DoneI f X Y x mid L'∧PredI f x mid L':=by
 have D':=D.perm (P.mono (show x≤mid+1 by omega) (Nat.le_refl _)) hl hX hY
 have em:kx f L' mid=kx f L mid:=P.outK (.inl (by omega))
 have r1':∀ p,x≤p→p<mid→kx f L' p≤kx f L' mid:=fun p a1 a2=>by
  rw [em,P.outK (p:=p) (.inl (by omega))]
  exact r1 p a1 a2
 have r2':∀ q,mid<q→q<y→kx f L' mid≤kx f L' q:=by
  rw [em]
  intro q a1 a2
  exact P.allK (P:=fun k=>kx f L mid≤k) (by omega) (fun p b1 b2=>r2 p (by omega) b2) q (by omega) a2
 refine ⟨fun p q h1 h2 h3 h4=>?_,fun h0 p a1 a2=>?_⟩
 ·by_cases hc:p<x∨y≤q
  ·exact D' p q h1 h2 h3 hc
  ·by_cases hp:mid<p
   ·exact H p q (by omega) h2 (by omega)
   ·by_cases hp2:p=mid
    ·rw [hp2]; exact r2' q (by omega) (by omega)
    ·have h5:=r1' p (by omega) (by omega)
     by_cases hq:q=mid
     ·rw [hq]; exact h5
     ·exact leI_trans h5 (r2' q (by omega) (by omega))
 ·rw [P.outK (p:=x-1) (.inl (by omega)),P.outK (p:=p) (.inl (by omega))]
  exact pre h0 p a1 (by omega)
theorem DoneI.eq {X Y x y mid pv:Nat} {L L':List V} (D:DoneI f X Y x y L) (pre:PredI f x y L) (h0:0<x) (hge:kx f L pv≤kx f L (x-1)) (hl:y≤L.length) (hX:X≤x) (hY:y≤Y) (m1:x<mid) (m2:mid≤y) (P:PermIn x y L L')
  (r1:∀ p,x≤p→p<mid→kx f L' p≤kx f L pv) (r2:∀ q,mid≤q→q<y→kx f L pv<kx f L' q) :
  DoneI f X Y mid y L'∧PredI f mid y L':=by
 have D':=D.perm P hl hX hY
 have pre':∀ p,x≤p→p<y→kx f L (x-1)≤kx f L' p:=P.allK (P:=fun k=>kx f L (x-1)≤k) hl (pre h0)
 refine ⟨fun p q h1 h2 h3 h4=>?_,fun _ p a1 a2=>?_⟩
 ·by_cases hc:p<x∨y≤q
  ·exact D' p q h1 h2 h3 hc
  ·have h5:=r1 p (by omega) (by omega)
   exact leI_trans (leI_trans h5 hge) (pre' q (by omega) (by omega))
 ·exact leI_trans (r1 (mid-1) (by omega) (by omega)) (leI_trans hge (pre' p (by omega) a2))
end
end Go.Ev
end
section
namespace Go.Ev
open Proofs
set_option maxRecDepth 20000
section
variable {h0:Heap} {n0 a N:Nat} {f:V→List Int} {op:Bool} {c:Nat}
theorem oK_intro {α:Type} {x:Option α} {v:α} {P:α→Prop} (h:x=some v) (k:P v):oK x P:=oK_of h k
theorem oK_yes {x:Option Bool} {A B:Prop} (h:x=some true) (k:A):oK x (fun b=>bif b then A else B):=oK_intro h k
theorem oK_no {x:Option Bool} {A B:Prop} (h:x=some false) (k:B):oK x (fun b=>bif b then A else B):=oK_intro h k
def PdqI (h0:Heap) (n0 a N:Nat) (f:V→List Int) (op:Bool) (c U W:Nat) (L0:List V) (x y:Nat) (s:St):Prop:=
 ∃ (lim:Int) (b1 b2:Bool) (L:List V) (h:Heap) (n:Nat),F159_L1100 (.slice a 0 N c op) (.s (.int .i64 (x:Nat))) (.s (.int .i64 (y:Nat))) (.s (.int .i64 lim)) cmpF (.s (.bool b1)) (.s (.bool b2)) h n s∧Srt h0 n0 a N f L h∧n0≤n∧PermIn U W L0 L∧DoneI f U W x y L∧PredI f x y L
set_option maxHeartbeats 16000000 in
theorem pdq_loop {U W M:Nat} {L0:List V} (hN:N≤64) (hY0:W≤N) (hMM:W-U≤M)
  (IH:∀ (x y:Nat) (lim:Int) (L:List V) (h:Heap) (n:Nat),y-x<M→x≤y→y≤N→Srt h0 n0 a N f L h→n0≤n→PredI f x y L→CallK CC 159 [.slice a 0 N c op,.s (.int .i64 (x:Nat)),.s (.int .i64 (y:Nat)),.s (.int .i64 lim),cmpF] h n fun _ h' n'=>SortP h0 n0 a N f x y L h')
  {Q:X→St→Prop} (hQ1:∀ h n (T:List V),SortP h0 n0 a N f U W L0 h→Q .ret ⟨mkTm T,h,n,[]⟩) :
  ∀ m s,(∃ x y,m=y-x∧U≤x∧x≤y∧y≤W∧PdqI h0 n0 a N f op c U W L0 x y s) →
   LoopK CC none (subC [1,1,0,0] (bodyOf Tryz.f159)) s Q:=by
 refine loopH CCok _ ?_
 rintro m s ⟨x,y,hm,hU,hxy,hW,lim,b1,b2,L,h,n,hs,S,hn,hP,hD,hpre⟩ hlt
 obtain ⟨g,rfl⟩:=hs
 rw [F159_b1100]
 have hN':N≤1000000000000:=by omega
 have hlN:=S.len
 have hly:y≤L.length:=by omega
 obtain ⟨l,hl⟩:∃ l,l=y-x:=⟨_,rfl⟩
 obtain ⟨l8,hl8⟩:∃ l8,l8=l / 8:=⟨_,rfl⟩
 have e0:wrapF .i64 ((y:Int)-(x:Int))=(l:Int):=by rw [wrapF_i64 (by omega) (by omega)]; omega
 have e8:binop CC .quo 3 true (.s (.int .i64 (l:Int))) (.s (.int .i64 8))=some (.s (.int .i64 (l8:Int))):=by
  rw [bin_quo _ _ _ _ (by decide)]
  rw [Int.tdiv_eq_ediv_of_nonneg (by omega),wrapF_i64 (by omega) (by omega)]
  congr 3
  omega
 refine oK_intro (v:=.s (.int .i64 (l:Int))) (by simp [e0]) ?_
 refine oK_intro (v:=.s (.bool (decide ((l:Int)≤12)))) (by simp) ?_
 by_cases c12:(l:Int)≤12
 ·refine oK_yes (by simp [c12]) ?_
  refine CallK.monoN ?_ (insertion_ok hN' (by omega) (by omega) S hn)
  rintro _ h' n' ⟨L',S',P',H'⟩ hn'
  simp [roundQ]
  exact hQ1 _ _ _ ⟨L',S',hP.trans (P'.mono hU hW),(hD.perm P' hly hU hW).fin H'⟩
 ·refine oK_no (by simp [c12]) ?_
  refine oK_intro (v:=.s (.bool (decide (lim=0)))) (by simp) ?_
  by_cases cz:lim=0
  ·refine oK_yes (by simp [cz]) ?_
   refine CallK.monoN ?_ (heapSort_ok hN' (by omega) (by omega) S hn)
   rintro _ h' n' ⟨L',S',P',H'⟩ hn'
   simp [roundQ]
   exact hQ1 _ _ _ ⟨L',S',hP.trans (P'.mono hU hW),(hD.perm P' hly hU hW).fin H'⟩
  ·refine oK_no (by simp [cz]) ?_
   cases b1 with
   | false=>
    refine oK_intro (v:=.s (.bool true)) (by simp) ?_
    refine oK_yes (by simp) ?_
    refine CallK.monoN ?_ (brk_ok hN (by omega) (by omega) S hn)
    rintro _ h1 n1 ⟨L1,S1,P1⟩ hn1
    refine oK_intro (v:=.s (.int .i64 (wrapF .i64 (lim-1)))) (by simp) ?_
    refine CallK.monoN ?_ (pivot_ok hN' (by omega) (by omega) S1 (by omega))
    rintro _ h2 n2 ⟨pv,k,rfl,hk,p1,p2,S2⟩ hn2
    refine oK_intro (v:=.s (.int .i64 (pv:Nat))) (by simp) ?_
    refine oK_intro (v:=.s (.int .i64 k)) (by simp) ?_
    refine oK_intro (v:=.s (.bool (decide (k=2)))) (by simp) ?_
    rcases hk with rfl | rfl | rfl
    ·refine oK_no (by simp) ?_
     simp
     have pN:Nat.blt pv N=true:=by rw [Nat.blt_eq]; omega
     by_cases c0:0<x
     ·have c0':(0:Int)<(x:Int):=by omega
      obtain ⟨k,hk⟩:∃ k,k=x-1:=⟨_,rfl⟩
      have ek:wrapF .i64 ((x:Int)-1)=(k:Int):=by rw [wrapF_i64 (by omega) (by omega)]; omega
      have kN:Nat.blt k N=true:=by rw [Nat.blt_eq]; omega
      obtain ⟨u,bu,u1,u2,u3,u4,u5,u6,u7,u8,u9⟩:=S2.at (show k<N by omega)
      obtain ⟨v,bv,v1,v2,v3,v4,v5,v6,v7,v8,v9⟩:=S2.at (show pv<N by omega)
      simp [c0,ek,kN,pN,cellsAt,S2.get,u1,v1,u6,v6]
      refine compare_ok u4 v4 u5 v5 ?_
      intro z hz z1 z2
      rw [u8,v8] at hz
      by_cases hz0:z<0
      ·simp [hz0]
       refine CallK.monoN ?_ (part_ok (pv:=pv) hN' (by omega) (by omega) (by omega) S2)
       rintro _ h5 n5 ⟨mid,bq,L5,rfl,m1,m2,S5,P5,r1,r2⟩ hn5
       have P6:=P1.trans P5
       have hl5:=S5.len
       have D5:=hD.perm P6 hly hU hW
       have pre5:=hpre.perm P6 hly
       obtain ⟨d1,hd1⟩:∃ d1,d1=mid-x:=⟨_,rfl⟩
       obtain ⟨d2,hd2⟩:∃ d2,d2=y-mid:=⟨_,rfl⟩
       obtain ⟨mm,hmm⟩:∃ mm,mm=mid+1:=⟨_,rfl⟩
       have e5:wrapF .i64 ((mid:Int)-(x:Int))=(d1:Int):=by rw [wrapF_i64 (by omega) (by omega)]; omega
       have e6:wrapF .i64 ((y:Int)-(mid:Int))=(d2:Int):=by rw [wrapF_i64 (by omega) (by omega)]; omega
       have e7:wrapF .i64 ((mid:Int)+1)=(mm:Int):=by rw [wrapF_i64 (by omega) (by omega)]; omega
       by_cases cl:(d1:Int)<(d2:Int)
       ·simp [e5,e6,e8,cl]
        refine CallK.monoN ?_ (IH x mid _ L5 _ _ (by omega) (by omega) (by omega) S5 (by omega) (fun h0 p a1 a2=>pre5 h0 p a1 (by omega)))
        rintro _ h6 n6 ⟨L6,S6,Q6,H6⟩ hn6
        have fin:=DoneI.left D5 (by omega) hU hW m1 m2 r1 r2 Q6 H6
        rw [← hmm] at fin
        simp [e7,roundQ]
        exact ⟨(y)-(mm),by omega,h6,fun hok b o hb=>⟨o,hb,hok b o hb⟩,mm,y,rfl,by omega,by omega,by omega,_,_,_,L6,h6,_,F159_L1100_of,S6,by omega,(hP.trans (P6.mono hU hW)).trans (Q6.mono (by omega) (by omega)),(fin).1,(fin).2⟩
       ·simp [e5,e6,e7,e8,cl]
        refine CallK.monoN ?_ (IH mm y _ L5 _ _ (by omega) (by omega) (by omega) S5 (by omega) (fun h0 p a1 a2=>by rw [show mm-1=mid by omega]; exact r2 p (by omega) a2))
        rintro _ h6 n6 ⟨L6,S6,Q6,H6⟩ hn6
        rw [hmm] at Q6 H6
        have fin:=DoneI.right D5 pre5 (by omega) hU hW m1 m2 r1 r2 Q6 H6
        simp [roundQ]
        exact ⟨(mid)-(x),by omega,h6,fun hok b o hb=>⟨o,hb,hok b o hb⟩,x,mid,rfl,by omega,by omega,by omega,_,_,_,L6,h6,_,F159_L1100_of,S6,by omega,(hP.trans (P6.mono hU hW)).trans (Q6.mono (by omega) (by omega)),(fin).1,(fin).2⟩
      ·simp [hz0]
       have hge:kx f L1 pv≤kx f L1 (x-1):=by rw [← hk]; exact notI.1 fun hh=>hz0 (hz.2 hh)
       refine CallK.monoN ?_ (partEq_ok (pv:=pv) hN' (by omega) (by omega) (by omega) S2)
       rintro _ h5 n5 ⟨mid,L5,rfl,m1,m2,S5,P5,r1,r2⟩ hn5
       have D5:=hD.perm P1 hly hU hW
       have pre5:=hpre.perm P1 hly
       have hlL:=P1.len
       have fin:=DoneI.eq D5 pre5 (by omega) hge (by omega) hU hW m1 m2 P5 r1 r2
       simp [roundQ]
       exact ⟨(y)-(mid),by omega,h5,fun hok b o hb=>⟨o,hb,hok b o hb⟩,mid,y,rfl,by omega,by omega,by omega,_,_,_,L5,h5,_,F159_L1100_of,S5,by omega,(hP.trans (P1.mono hU hW)).trans (P5.mono (by omega) (by omega)),(fin).1,(fin).2⟩
     ·have c0':¬ (0:Int)<(x:Int):=by omega
      simp [c0]
      refine CallK.monoN ?_ (part_ok (pv:=pv) hN' (by omega) (by omega) (by omega) S2)
      rintro _ h5 n5 ⟨mid,bq,L5,rfl,m1,m2,S5,P5,r1,r2⟩ hn5
      have P6:=P1.trans P5
      have hl5:=S5.len
      have D5:=hD.perm P6 hly hU hW
      have pre5:=hpre.perm P6 hly
      obtain ⟨d1,hd1⟩:∃ d1,d1=mid-x:=⟨_,rfl⟩
      obtain ⟨d2,hd2⟩:∃ d2,d2=y-mid:=⟨_,rfl⟩
      obtain ⟨mm,hmm⟩:∃ mm,mm=mid+1:=⟨_,rfl⟩
      have e5:wrapF .i64 ((mid:Int)-(x:Int))=(d1:Int):=by rw [wrapF_i64 (by omega) (by omega)]; omega
      have e6:wrapF .i64 ((y:Int)-(mid:Int))=(d2:Int):=by rw [wrapF_i64 (by omega) (by omega)]; omega
      have e7:wrapF .i64 ((mid:Int)+1)=(mm:Int):=by rw [wrapF_i64 (by omega) (by omega)]; omega
      by_cases cl:(d1:Int)<(d2:Int)
      ·simp [e5,e6,e8,cl]
       refine CallK.monoN ?_ (IH x mid _ L5 _ _ (by omega) (by omega) (by omega) S5 (by omega) (fun h0 p a1 a2=>pre5 h0 p a1 (by omega)))
       rintro _ h6 n6 ⟨L6,S6,Q6,H6⟩ hn6
       have fin:=DoneI.left D5 (by omega) hU hW m1 m2 r1 r2 Q6 H6
       rw [← hmm] at fin
       simp [e7,roundQ]
       exact ⟨(y)-(mm),by omega,h6,fun hok b o hb=>⟨o,hb,hok b o hb⟩,mm,y,rfl,by omega,by omega,by omega,_,_,_,L6,h6,_,F159_L1100_of,S6,by omega,(hP.trans (P6.mono hU hW)).trans (Q6.mono (by omega) (by omega)),(fin).1,(fin).2⟩
      ·simp [e5,e6,e7,e8,cl]
       refine CallK.monoN ?_ (IH mm y _ L5 _ _ (by omega) (by omega) (by omega) S5 (by omega) (fun h0 p a1 a2=>by rw [show mm-1=mid by omega]; exact r2 p (by omega) a2))
       rintro _ h6 n6 ⟨L6,S6,Q6,H6⟩ hn6
       rw [hmm] at Q6 H6
       have fin:=DoneI.right D5 pre5 (by omega) hU hW m1 m2 r1 r2 Q6 H6
       simp [roundQ]
       exact ⟨(mid)-(x),by omega,h6,fun hok b o hb=>⟨o,hb,hok b o hb⟩,x,mid,rfl,by omega,by omega,by omega,_,_,_,L6,h6,_,F159_L1100_of,S6,by omega,(hP.trans (P6.mono hU hW)).trans (Q6.mono (by omega) (by omega)),(fin).1,(fin).2⟩
    ·refine oK_no (by simp) ?_
     simp
     have pN:Nat.blt pv N=true:=by rw [Nat.blt_eq]; omega
     by_cases c0:0<x
     ·have c0':(0:Int)<(x:Int):=by omega
      obtain ⟨k,hk⟩:∃ k,k=x-1:=⟨_,rfl⟩
      have ek:wrapF .i64 ((x:Int)-1)=(k:Int):=by rw [wrapF_i64 (by omega) (by omega)]; omega
      have kN:Nat.blt k N=true:=by rw [Nat.blt_eq]; omega
      obtain ⟨u,bu,u1,u2,u3,u4,u5,u6,u7,u8,u9⟩:=S2.at (show k<N by omega)
      obtain ⟨v,bv,v1,v2,v3,v4,v5,v6,v7,v8,v9⟩:=S2.at (show pv<N by omega)
      simp [c0,ek,kN,pN,cellsAt,S2.get,u1,v1,u6,v6]
      refine compare_ok u4 v4 u5 v5 ?_
      intro z hz z1 z2
      rw [u8,v8] at hz
      by_cases hz0:z<0
      ·simp [hz0]
       refine CallK.monoN ?_ (part_ok (pv:=pv) hN' (by omega) (by omega) (by omega) S2)
       rintro _ h5 n5 ⟨mid,bq,L5,rfl,m1,m2,S5,P5,r1,r2⟩ hn5
       have P6:=P1.trans P5
       have hl5:=S5.len
       have D5:=hD.perm P6 hly hU hW
       have pre5:=hpre.perm P6 hly
       obtain ⟨d1,hd1⟩:∃ d1,d1=mid-x:=⟨_,rfl⟩
       obtain ⟨d2,hd2⟩:∃ d2,d2=y-mid:=⟨_,rfl⟩
       obtain ⟨mm,hmm⟩:∃ mm,mm=mid+1:=⟨_,rfl⟩
       have e5:wrapF .i64 ((mid:Int)-(x:Int))=(d1:Int):=by rw [wrapF_i64 (by omega) (by omega)]; omega
       have e6:wrapF .i64 ((y:Int)-(mid:Int))=(d2:Int):=by rw [wrapF_i64 (by omega) (by omega)]; omega
       have e7:wrapF .i64 ((mid:Int)+1)=(mm:Int):=by rw [wrapF_i64 (by omega) (by omega)]; omega
       by_cases cl:(d1:Int)<(d2:Int)
       ·simp [e5,e6,e8,cl]
        refine CallK.monoN ?_ (IH x mid _ L5 _ _ (by omega) (by omega) (by omega) S5 (by omega) (fun h0 p a1 a2=>pre5 h0 p a1 (by omega)))
        rintro _ h6 n6 ⟨L6,S6,Q6,H6⟩ hn6
        have fin:=DoneI.left D5 (by omega) hU hW m1 m2 r1 r2 Q6 H6
        rw [← hmm] at fin
        simp [e7,roundQ]
        exact ⟨(y)-(mm),by omega,h6,fun hok b o hb=>⟨o,hb,hok b o hb⟩,mm,y,rfl,by omega,by omega,by omega,_,_,_,L6,h6,_,F159_L1100_of,S6,by omega,(hP.trans (P6.mono hU hW)).trans (Q6.mono (by omega) (by omega)),(fin).1,(fin).2⟩
       ·simp [e5,e6,e7,e8,cl]
        refine CallK.monoN ?_ (IH mm y _ L5 _ _ (by omega) (by omega) (by omega) S5 (by omega) (fun h0 p a1 a2=>by rw [show mm-1=mid by omega]; exact r2 p (by omega) a2))
        rintro _ h6 n6 ⟨L6,S6,Q6,H6⟩ hn6
        rw [hmm] at Q6 H6
        have fin:=DoneI.right D5 pre5 (by omega) hU hW m1 m2 r1 r2 Q6 H6
        simp [roundQ]
        exact ⟨(mid)-(x),by omega,h6,fun hok b o hb=>⟨o,hb,hok b o hb⟩,x,mid,rfl,by omega,by omega,by omega,_,_,_,L6,h6,_,F159_L1100_of,S6,by omega,(hP.trans (P6.mono hU hW)).trans (Q6.mono (by omega) (by omega)),(fin).1,(fin).2⟩
      ·simp [hz0]
       have hge:kx f L1 pv≤kx f L1 (x-1):=by rw [← hk]; exact notI.1 fun hh=>hz0 (hz.2 hh)
       refine CallK.monoN ?_ (partEq_ok (pv:=pv) hN' (by omega) (by omega) (by omega) S2)
       rintro _ h5 n5 ⟨mid,L5,rfl,m1,m2,S5,P5,r1,r2⟩ hn5
       have D5:=hD.perm P1 hly hU hW
       have pre5:=hpre.perm P1 hly
       have hlL:=P1.len
       have fin:=DoneI.eq D5 pre5 (by omega) hge (by omega) hU hW m1 m2 P5 r1 r2
       simp [roundQ]
       exact ⟨(y)-(mid),by omega,h5,fun hok b o hb=>⟨o,hb,hok b o hb⟩,mid,y,rfl,by omega,by omega,by omega,_,_,_,L5,h5,_,F159_L1100_of,S5,by omega,(hP.trans (P1.mono hU hW)).trans (P5.mono (by omega) (by omega)),(fin).1,(fin).2⟩
     ·have c0':¬ (0:Int)<(x:Int):=by omega
      simp [c0]
      refine CallK.monoN ?_ (part_ok (pv:=pv) hN' (by omega) (by omega) (by omega) S2)
      rintro _ h5 n5 ⟨mid,bq,L5,rfl,m1,m2,S5,P5,r1,r2⟩ hn5
      have P6:=P1.trans P5
      have hl5:=S5.len
      have D5:=hD.perm P6 hly hU hW
      have pre5:=hpre.perm P6 hly
      obtain ⟨d1,hd1⟩:∃ d1,d1=mid-x:=⟨_,rfl⟩
      obtain ⟨d2,hd2⟩:∃ d2,d2=y-mid:=⟨_,rfl⟩
      obtain ⟨mm,hmm⟩:∃ mm,mm=mid+1:=⟨_,rfl⟩
      have e5:wrapF .i64 ((mid:Int)-(x:Int))=(d1:Int):=by rw [wrapF_i64 (by omega) (by omega)]; omega
      have e6:wrapF .i64 ((y:Int)-(mid:Int))=(d2:Int):=by rw [wrapF_i64 (by omega) (by omega)]; omega
      have e7:wrapF .i64 ((mid:Int)+1)=(mm:Int):=by rw [wrapF_i64 (by omega) (by omega)]; omega
      by_cases cl:(d1:Int)<(d2:Int)
      ·simp [e5,e6,e8,cl]
       refine CallK.monoN ?_ (IH x mid _ L5 _ _ (by omega) (by omega) (by omega) S5 (by omega) (fun h0 p a1 a2=>pre5 h0 p a1 (by omega)))
       rintro _ h6 n6 ⟨L6,S6,Q6,H6⟩ hn6
       have fin:=DoneI.left D5 (by omega) hU hW m1 m2 r1 r2 Q6 H6
       rw [← hmm] at fin
       simp [e7,roundQ]
       exact ⟨(y)-(mm),by omega,h6,fun hok b o hb=>⟨o,hb,hok b o hb⟩,mm,y,rfl,by omega,by omega,by omega,_,_,_,L6,h6,_,F159_L1100_of,S6,by omega,(hP.trans (P6.mono hU hW)).trans (Q6.mono (by omega) (by omega)),(fin).1,(fin).2⟩
      ·simp [e5,e6,e7,e8,cl]
       refine CallK.monoN ?_ (IH mm y _ L5 _ _ (by omega) (by omega) (by omega) S5 (by omega) (fun h0 p a1 a2=>by rw [show mm-1=mid by omega]; exact r2 p (by omega) a2))
       rintro _ h6 n6 ⟨L6,S6,Q6,H6⟩ hn6
       rw [hmm] at Q6 H6
       have fin:=DoneI.right D5 pre5 (by omega) hU hW m1 m2 r1 r2 Q6 H6
       simp [roundQ]
       exact ⟨(mid)-(x),by omega,h6,fun hok b o hb=>⟨o,hb,hok b o hb⟩,x,mid,rfl,by omega,by omega,by omega,_,_,_,L6,h6,_,F159_L1100_of,S6,by omega,(hP.trans (P6.mono hU hW)).trans (Q6.mono (by omega) (by omega)),(fin).1,(fin).2⟩
    ·refine oK_yes (by simp) ?_
     refine CallK.monoN ?_ (rev_ok hN' (by omega) (by omega) S2)
     rintro _ h3 n3 ⟨L3,S3,P3⟩ hn3
     have P33:=P1.trans P3
     obtain ⟨q1,hq1⟩:∃ q1,q1=y-1:=⟨_,rfl⟩
     obtain ⟨q2,hq2⟩:∃ q2,q2=pv-x:=⟨_,rfl⟩
     obtain ⟨q3,hq3⟩:∃ q3,q3=q1-q2:=⟨_,rfl⟩
     have eq1:wrapF .i64 ((y:Int)-1)=(q1:Int):=by rw [wrapF_i64 (by omega) (by omega)]; omega
     have eq2:wrapF .i64 ((pv:Int)-(x:Int))=(q2:Int):=by rw [wrapF_i64 (by omega) (by omega)]; omega
     have eq3:wrapF .i64 ((q1:Int)-(q2:Int))=(q3:Int):=by rw [wrapF_i64 (by omega) (by omega)]; omega
     refine oK_intro (v:=.s (.int .i64 (q1:Nat))) (by simp [eq1]) ?_
     refine oK_intro (v:=.s (.int .i64 (q2:Nat))) (by simp [eq2]) ?_
     refine oK_intro (v:=.s (.int .i64 (q3:Nat))) (by simp [eq3]) ?_
     simp
     have pN:Nat.blt q3 N=true:=by rw [Nat.blt_eq]; omega
     by_cases c0:0<x
     ·have c0':(0:Int)<(x:Int):=by omega
      obtain ⟨k,hk⟩:∃ k,k=x-1:=⟨_,rfl⟩
      have ek:wrapF .i64 ((x:Int)-1)=(k:Int):=by rw [wrapF_i64 (by omega) (by omega)]; omega
      have kN:Nat.blt k N=true:=by rw [Nat.blt_eq]; omega
      obtain ⟨u,bu,u1,u2,u3,u4,u5,u6,u7,u8,u9⟩:=S3.at (show k<N by omega)
      obtain ⟨v,bv,v1,v2,v3,v4,v5,v6,v7,v8,v9⟩:=S3.at (show q3<N by omega)
      simp [c0,ek,kN,pN,cellsAt,S3.get,u1,v1,u6,v6]
      refine compare_ok u4 v4 u5 v5 ?_
      intro z hz z1 z2
      rw [u8,v8] at hz
      by_cases hz0:z<0
      ·simp [hz0]
       refine CallK.monoN ?_ (part_ok (pv:=q3) hN' (by omega) (by omega) (by omega) S3)
       rintro _ h5 n5 ⟨mid,bq,L5,rfl,m1,m2,S5,P5,r1,r2⟩ hn5
       have P6:=P33.trans P5
       have hl5:=S5.len
       have D5:=hD.perm P6 hly hU hW
       have pre5:=hpre.perm P6 hly
       obtain ⟨d1,hd1⟩:∃ d1,d1=mid-x:=⟨_,rfl⟩
       obtain ⟨d2,hd2⟩:∃ d2,d2=y-mid:=⟨_,rfl⟩
       obtain ⟨mm,hmm⟩:∃ mm,mm=mid+1:=⟨_,rfl⟩
       have e5:wrapF .i64 ((mid:Int)-(x:Int))=(d1:Int):=by rw [wrapF_i64 (by omega) (by omega)]; omega
       have e6:wrapF .i64 ((y:Int)-(mid:Int))=(d2:Int):=by rw [wrapF_i64 (by omega) (by omega)]; omega
       have e7:wrapF .i64 ((mid:Int)+1)=(mm:Int):=by rw [wrapF_i64 (by omega) (by omega)]; omega
       by_cases cl:(d1:Int)<(d2:Int)
       ·simp [e5,e6,e8,cl]
        refine CallK.monoN ?_ (IH x mid _ L5 _ _ (by omega) (by omega) (by omega) S5 (by omega) (fun h0 p a1 a2=>pre5 h0 p a1 (by omega)))
        rintro _ h6 n6 ⟨L6,S6,Q6,H6⟩ hn6
        have fin:=DoneI.left D5 (by omega) hU hW m1 m2 r1 r2 Q6 H6
        rw [← hmm] at fin
        simp [e7,roundQ]
        exact ⟨(y)-(mm),by omega,h6,fun hok b o hb=>⟨o,hb,hok b o hb⟩,mm,y,rfl,by omega,by omega,by omega,_,_,_,L6,h6,_,F159_L1100_of,S6,by omega,(hP.trans (P6.mono hU hW)).trans (Q6.mono (by omega) (by omega)),(fin).1,(fin).2⟩
       ·simp [e5,e6,e7,e8,cl]
        refine CallK.monoN ?_ (IH mm y _ L5 _ _ (by omega) (by omega) (by omega) S5 (by omega) (fun h0 p a1 a2=>by rw [show mm-1=mid by omega]; exact r2 p (by omega) a2))
        rintro _ h6 n6 ⟨L6,S6,Q6,H6⟩ hn6
        rw [hmm] at Q6 H6
        have fin:=DoneI.right D5 pre5 (by omega) hU hW m1 m2 r1 r2 Q6 H6
        simp [roundQ]
        exact ⟨(mid)-(x),by omega,h6,fun hok b o hb=>⟨o,hb,hok b o hb⟩,x,mid,rfl,by omega,by omega,by omega,_,_,_,L6,h6,_,F159_L1100_of,S6,by omega,(hP.trans (P6.mono hU hW)).trans (Q6.mono (by omega) (by omega)),(fin).1,(fin).2⟩
      ·simp [hz0]
       have hge:kx f L3 q3≤kx f L3 (x-1):=by rw [← hk]; exact notI.1 fun hh=>hz0 (hz.2 hh)
       refine CallK.monoN ?_ (partEq_ok (pv:=q3) hN' (by omega) (by omega) (by omega) S3)
       rintro _ h5 n5 ⟨mid,L5,rfl,m1,m2,S5,P5,r1,r2⟩ hn5
       have D5:=hD.perm P33 hly hU hW
       have pre5:=hpre.perm P33 hly
       have hlL:=P33.len
       have fin:=DoneI.eq D5 pre5 (by omega) hge (by omega) hU hW m1 m2 P5 r1 r2
       simp [roundQ]
       exact ⟨(y)-(mid),by omega,h5,fun hok b o hb=>⟨o,hb,hok b o hb⟩,mid,y,rfl,by omega,by omega,by omega,_,_,_,L5,h5,_,F159_L1100_of,S5,by omega,(hP.trans (P33.mono hU hW)).trans (P5.mono (by omega) (by omega)),(fin).1,(fin).2⟩
     ·have c0':¬ (0:Int)<(x:Int):=by omega
      simp [c0]
      refine CallK.monoN ?_ (part_ok (pv:=q3) hN' (by omega) (by omega) (by omega) S3)
      rintro _ h5 n5 ⟨mid,bq,L5,rfl,m1,m2,S5,P5,r1,r2⟩ hn5
      have P6:=P33.trans P5
      have hl5:=S5.len
      have D5:=hD.perm P6 hly hU hW
      have pre5:=hpre.perm P6 hly
      obtain ⟨d1,hd1⟩:∃ d1,d1=mid-x:=⟨_,rfl⟩
      obtain ⟨d2,hd2⟩:∃ d2,d2=y-mid:=⟨_,rfl⟩
      obtain ⟨mm,hmm⟩:∃ mm,mm=mid+1:=⟨_,rfl⟩
      have e5:wrapF .i64 ((mid:Int)-(x:Int))=(d1:Int):=by rw [wrapF_i64 (by omega) (by omega)]; omega
      have e6:wrapF .i64 ((y:Int)-(mid:Int))=(d2:Int):=by rw [wrapF_i64 (by omega) (by omega)]; omega
      have e7:wrapF .i64 ((mid:Int)+1)=(mm:Int):=by rw [wrapF_i64 (by omega) (by omega)]; omega
      by_cases cl:(d1:Int)<(d2:Int)
      ·simp [e5,e6,e8,cl]
       refine CallK.monoN ?_ (IH x mid _ L5 _ _ (by omega) (by omega) (by omega) S5 (by omega) (fun h0 p a1 a2=>pre5 h0 p a1 (by omega)))
       rintro _ h6 n6 ⟨L6,S6,Q6,H6⟩ hn6
       have fin:=DoneI.left D5 (by omega) hU hW m1 m2 r1 r2 Q6 H6
       rw [← hmm] at fin
       simp [e7,roundQ]
       exact ⟨(y)-(mm),by omega,h6,fun hok b o hb=>⟨o,hb,hok b o hb⟩,mm,y,rfl,by omega,by omega,by omega,_,_,_,L6,h6,_,F159_L1100_of,S6,by omega,(hP.trans (P6.mono hU hW)).trans (Q6.mono (by omega) (by omega)),(fin).1,(fin).2⟩
      ·simp [e5,e6,e7,e8,cl]
       refine CallK.monoN ?_ (IH mm y _ L5 _ _ (by omega) (by omega) (by omega) S5 (by omega) (fun h0 p a1 a2=>by rw [show mm-1=mid by omega]; exact r2 p (by omega) a2))
       rintro _ h6 n6 ⟨L6,S6,Q6,H6⟩ hn6
       rw [hmm] at Q6 H6
       have fin:=DoneI.right D5 pre5 (by omega) hU hW m1 m2 r1 r2 Q6 H6
       simp [roundQ]
       exact ⟨(mid)-(x),by omega,h6,fun hok b o hb=>⟨o,hb,hok b o hb⟩,x,mid,rfl,by omega,by omega,by omega,_,_,_,L6,h6,_,F159_L1100_of,S6,by omega,(hP.trans (P6.mono hU hW)).trans (Q6.mono (by omega) (by omega)),(fin).1,(fin).2⟩
   | true=>
    have P0:=PermIn.refl x y L
    refine oK_intro (v:=.s (.bool false)) (by simp) ?_
    refine oK_no (by simp) ?_
    refine CallK.monoN ?_ (pivot_ok hN' (by omega) (by omega) S hn)
    rintro _ h2 n2 ⟨pv,k,rfl,hk,p1,p2,S2⟩ hn2
    refine oK_intro (v:=.s (.int .i64 (pv:Nat))) (by simp) ?_
    refine oK_intro (v:=.s (.int .i64 k)) (by simp) ?_
    refine oK_intro (v:=.s (.bool (decide (k=2)))) (by simp) ?_
    rcases hk with rfl | rfl | rfl
    ·refine oK_no (by simp) ?_
     cases b2 with
     | false=>
      simp
      have pN:Nat.blt pv N=true:=by rw [Nat.blt_eq]; omega
      by_cases c0:0<x
      ·have c0':(0:Int)<(x:Int):=by omega
       obtain ⟨k,hk⟩:∃ k,k=x-1:=⟨_,rfl⟩
       have ek:wrapF .i64 ((x:Int)-1)=(k:Int):=by rw [wrapF_i64 (by omega) (by omega)]; omega
       have kN:Nat.blt k N=true:=by rw [Nat.blt_eq]; omega
       obtain ⟨u,bu,u1,u2,u3,u4,u5,u6,u7,u8,u9⟩:=S2.at (show k<N by omega)
       obtain ⟨v,bv,v1,v2,v3,v4,v5,v6,v7,v8,v9⟩:=S2.at (show pv<N by omega)
       simp [c0,ek,kN,pN,cellsAt,S2.get,u1,v1,u6,v6]
       refine compare_ok u4 v4 u5 v5 ?_
       intro z hz z1 z2
       rw [u8,v8] at hz
       by_cases hz0:z<0
       ·simp [hz0]
        refine CallK.monoN ?_ (part_ok (pv:=pv) hN' (by omega) (by omega) (by omega) S2)
        rintro _ h5 n5 ⟨mid,bq,L5,rfl,m1,m2,S5,P5,r1,r2⟩ hn5
        have P6:=P0.trans P5
        have hl5:=S5.len
        have D5:=hD.perm P6 hly hU hW
        have pre5:=hpre.perm P6 hly
        obtain ⟨d1,hd1⟩:∃ d1,d1=mid-x:=⟨_,rfl⟩
        obtain ⟨d2,hd2⟩:∃ d2,d2=y-mid:=⟨_,rfl⟩
        obtain ⟨mm,hmm⟩:∃ mm,mm=mid+1:=⟨_,rfl⟩
        have e5:wrapF .i64 ((mid:Int)-(x:Int))=(d1:Int):=by rw [wrapF_i64 (by omega) (by omega)]; omega
        have e6:wrapF .i64 ((y:Int)-(mid:Int))=(d2:Int):=by rw [wrapF_i64 (by omega) (by omega)]; omega
        have e7:wrapF .i64 ((mid:Int)+1)=(mm:Int):=by rw [wrapF_i64 (by omega) (by omega)]; omega
        by_cases cl:(d1:Int)<(d2:Int)
        ·simp [e5,e6,e8,cl]
         refine CallK.monoN ?_ (IH x mid _ L5 _ _ (by omega) (by omega) (by omega) S5 (by omega) (fun h0 p a1 a2=>pre5 h0 p a1 (by omega)))
         rintro _ h6 n6 ⟨L6,S6,Q6,H6⟩ hn6
         have fin:=DoneI.left D5 (by omega) hU hW m1 m2 r1 r2 Q6 H6
         rw [← hmm] at fin
         simp [e7,roundQ]
         exact ⟨(y)-(mm),by omega,h6,fun hok b o hb=>⟨o,hb,hok b o hb⟩,mm,y,rfl,by omega,by omega,by omega,_,_,_,L6,h6,_,F159_L1100_of,S6,by omega,(hP.trans (P6.mono hU hW)).trans (Q6.mono (by omega) (by omega)),(fin).1,(fin).2⟩
        ·simp [e5,e6,e7,e8,cl]
         refine CallK.monoN ?_ (IH mm y _ L5 _ _ (by omega) (by omega) (by omega) S5 (by omega) (fun h0 p a1 a2=>by rw [show mm-1=mid by omega]; exact r2 p (by omega) a2))
         rintro _ h6 n6 ⟨L6,S6,Q6,H6⟩ hn6
         rw [hmm] at Q6 H6
         have fin:=DoneI.right D5 pre5 (by omega) hU hW m1 m2 r1 r2 Q6 H6
         simp [roundQ]
         exact ⟨(mid)-(x),by omega,h6,fun hok b o hb=>⟨o,hb,hok b o hb⟩,x,mid,rfl,by omega,by omega,by omega,_,_,_,L6,h6,_,F159_L1100_of,S6,by omega,(hP.trans (P6.mono hU hW)).trans (Q6.mono (by omega) (by omega)),(fin).1,(fin).2⟩
       ·simp [hz0]
        have hge:kx f L pv≤kx f L (x-1):=by rw [← hk]; exact notI.1 fun hh=>hz0 (hz.2 hh)
        refine CallK.monoN ?_ (partEq_ok (pv:=pv) hN' (by omega) (by omega) (by omega) S2)
        rintro _ h5 n5 ⟨mid,L5,rfl,m1,m2,S5,P5,r1,r2⟩ hn5
        have D5:=hD.perm P0 hly hU hW
        have pre5:=hpre.perm P0 hly
        have hlL:=P0.len
        have fin:=DoneI.eq D5 pre5 (by omega) hge (by omega) hU hW m1 m2 P5 r1 r2
        simp [roundQ]
        exact ⟨(y)-(mid),by omega,h5,fun hok b o hb=>⟨o,hb,hok b o hb⟩,mid,y,rfl,by omega,by omega,by omega,_,_,_,L5,h5,_,F159_L1100_of,S5,by omega,(hP.trans (P0.mono hU hW)).trans (P5.mono (by omega) (by omega)),(fin).1,(fin).2⟩
      ·have c0':¬ (0:Int)<(x:Int):=by omega
       simp [c0]
       refine CallK.monoN ?_ (part_ok (pv:=pv) hN' (by omega) (by omega) (by omega) S2)
       rintro _ h5 n5 ⟨mid,bq,L5,rfl,m1,m2,S5,P5,r1,r2⟩ hn5
       have P6:=P0.trans P5
       have hl5:=S5.len
       have D5:=hD.perm P6 hly hU hW
       have pre5:=hpre.perm P6 hly
       obtain ⟨d1,hd1⟩:∃ d1,d1=mid-x:=⟨_,rfl⟩
       obtain ⟨d2,hd2⟩:∃ d2,d2=y-mid:=⟨_,rfl⟩
       obtain ⟨mm,hmm⟩:∃ mm,mm=mid+1:=⟨_,rfl⟩
       have e5:wrapF .i64 ((mid:Int)-(x:Int))=(d1:Int):=by rw [wrapF_i64 (by omega) (by omega)]; omega
       have e6:wrapF .i64 ((y:Int)-(mid:Int))=(d2:Int):=by rw [wrapF_i64 (by omega) (by omega)]; omega
       have e7:wrapF .i64 ((mid:Int)+1)=(mm:Int):=by rw [wrapF_i64 (by omega) (by omega)]; omega
       by_cases cl:(d1:Int)<(d2:Int)
       ·simp [e5,e6,e8,cl]
        refine CallK.monoN ?_ (IH x mid _ L5 _ _ (by omega) (by omega) (by omega) S5 (by omega) (fun h0 p a1 a2=>pre5 h0 p a1 (by omega)))
        rintro _ h6 n6 ⟨L6,S6,Q6,H6⟩ hn6
        have fin:=DoneI.left D5 (by omega) hU hW m1 m2 r1 r2 Q6 H6
        rw [← hmm] at fin
        simp [e7,roundQ]
        exact ⟨(y)-(mm),by omega,h6,fun hok b o hb=>⟨o,hb,hok b o hb⟩,mm,y,rfl,by omega,by omega,by omega,_,_,_,L6,h6,_,F159_L1100_of,S6,by omega,(hP.trans (P6.mono hU hW)).trans (Q6.mono (by omega) (by omega)),(fin).1,(fin).2⟩
       ·simp [e5,e6,e7,e8,cl]
        refine CallK.monoN ?_ (IH mm y _ L5 _ _ (by omega) (by omega) (by omega) S5 (by omega) (fun h0 p a1 a2=>by rw [show mm-1=mid by omega]; exact r2 p (by omega) a2))
        rintro _ h6 n6 ⟨L6,S6,Q6,H6⟩ hn6
        rw [hmm] at Q6 H6
        have fin:=DoneI.right D5 pre5 (by omega) hU hW m1 m2 r1 r2 Q6 H6
        simp [roundQ]
        exact ⟨(mid)-(x),by omega,h6,fun hok b o hb=>⟨o,hb,hok b o hb⟩,x,mid,rfl,by omega,by omega,by omega,_,_,_,L6,h6,_,F159_L1100_of,S6,by omega,(hP.trans (P6.mono hU hW)).trans (Q6.mono (by omega) (by omega)),(fin).1,(fin).2⟩
     | true=>
      simp
      have pN:Nat.blt pv N=true:=by rw [Nat.blt_eq]; omega
      by_cases c0:0<x
      ·have c0':(0:Int)<(x:Int):=by omega
       obtain ⟨k,hk⟩:∃ k,k=x-1:=⟨_,rfl⟩
       have ek:wrapF .i64 ((x:Int)-1)=(k:Int):=by rw [wrapF_i64 (by omega) (by omega)]; omega
       have kN:Nat.blt k N=true:=by rw [Nat.blt_eq]; omega
       obtain ⟨u,bu,u1,u2,u3,u4,u5,u6,u7,u8,u9⟩:=S2.at (show k<N by omega)
       obtain ⟨v,bv,v1,v2,v3,v4,v5,v6,v7,v8,v9⟩:=S2.at (show pv<N by omega)
       simp [c0,ek,kN,pN,cellsAt,S2.get,u1,v1,u6,v6]
       refine compare_ok u4 v4 u5 v5 ?_
       intro z hz z1 z2
       rw [u8,v8] at hz
       by_cases hz0:z<0
       ·simp [hz0]
        refine CallK.monoN ?_ (part_ok (pv:=pv) hN' (by omega) (by omega) (by omega) S2)
        rintro _ h5 n5 ⟨mid,bq,L5,rfl,m1,m2,S5,P5,r1,r2⟩ hn5
        have P6:=P0.trans P5
        have hl5:=S5.len
        have D5:=hD.perm P6 hly hU hW
        have pre5:=hpre.perm P6 hly
        obtain ⟨d1,hd1⟩:∃ d1,d1=mid-x:=⟨_,rfl⟩
        obtain ⟨d2,hd2⟩:∃ d2,d2=y-mid:=⟨_,rfl⟩
        obtain ⟨mm,hmm⟩:∃ mm,mm=mid+1:=⟨_,rfl⟩
        have e5:wrapF .i64 ((mid:Int)-(x:Int))=(d1:Int):=by rw [wrapF_i64 (by omega) (by omega)]; omega
        have e6:wrapF .i64 ((y:Int)-(mid:Int))=(d2:Int):=by rw [wrapF_i64 (by omega) (by omega)]; omega
        have e7:wrapF .i64 ((mid:Int)+1)=(mm:Int):=by rw [wrapF_i64 (by omega) (by omega)]; omega
        by_cases cl:(d1:Int)<(d2:Int)
        ·simp [e5,e6,e8,cl]
         refine CallK.monoN ?_ (IH x mid _ L5 _ _ (by omega) (by omega) (by omega) S5 (by omega) (fun h0 p a1 a2=>pre5 h0 p a1 (by omega)))
         rintro _ h6 n6 ⟨L6,S6,Q6,H6⟩ hn6
         have fin:=DoneI.left D5 (by omega) hU hW m1 m2 r1 r2 Q6 H6
         rw [← hmm] at fin
         simp [e7,roundQ]
         exact ⟨(y)-(mm),by omega,h6,fun hok b o hb=>⟨o,hb,hok b o hb⟩,mm,y,rfl,by omega,by omega,by omega,_,_,_,L6,h6,_,F159_L1100_of,S6,by omega,(hP.trans (P6.mono hU hW)).trans (Q6.mono (by omega) (by omega)),(fin).1,(fin).2⟩
        ·simp [e5,e6,e7,e8,cl]
         refine CallK.monoN ?_ (IH mm y _ L5 _ _ (by omega) (by omega) (by omega) S5 (by omega) (fun h0 p a1 a2=>by rw [show mm-1=mid by omega]; exact r2 p (by omega) a2))
         rintro _ h6 n6 ⟨L6,S6,Q6,H6⟩ hn6
         rw [hmm] at Q6 H6
         have fin:=DoneI.right D5 pre5 (by omega) hU hW m1 m2 r1 r2 Q6 H6
         simp [roundQ]
         exact ⟨(mid)-(x),by omega,h6,fun hok b o hb=>⟨o,hb,hok b o hb⟩,x,mid,rfl,by omega,by omega,by omega,_,_,_,L6,h6,_,F159_L1100_of,S6,by omega,(hP.trans (P6.mono hU hW)).trans (Q6.mono (by omega) (by omega)),(fin).1,(fin).2⟩
       ·simp [hz0]
        have hge:kx f L pv≤kx f L (x-1):=by rw [← hk]; exact notI.1 fun hh=>hz0 (hz.2 hh)
        refine CallK.monoN ?_ (partEq_ok (pv:=pv) hN' (by omega) (by omega) (by omega) S2)
        rintro _ h5 n5 ⟨mid,L5,rfl,m1,m2,S5,P5,r1,r2⟩ hn5
        have D5:=hD.perm P0 hly hU hW
        have pre5:=hpre.perm P0 hly
        have hlL:=P0.len
        have fin:=DoneI.eq D5 pre5 (by omega) hge (by omega) hU hW m1 m2 P5 r1 r2
        simp [roundQ]
        exact ⟨(y)-(mid),by omega,h5,fun hok b o hb=>⟨o,hb,hok b o hb⟩,mid,y,rfl,by omega,by omega,by omega,_,_,_,L5,h5,_,F159_L1100_of,S5,by omega,(hP.trans (P0.mono hU hW)).trans (P5.mono (by omega) (by omega)),(fin).1,(fin).2⟩
      ·have c0':¬ (0:Int)<(x:Int):=by omega
       simp [c0]
       refine CallK.monoN ?_ (part_ok (pv:=pv) hN' (by omega) (by omega) (by omega) S2)
       rintro _ h5 n5 ⟨mid,bq,L5,rfl,m1,m2,S5,P5,r1,r2⟩ hn5
       have P6:=P0.trans P5
       have hl5:=S5.len
       have D5:=hD.perm P6 hly hU hW
       have pre5:=hpre.perm P6 hly
       obtain ⟨d1,hd1⟩:∃ d1,d1=mid-x:=⟨_,rfl⟩
       obtain ⟨d2,hd2⟩:∃ d2,d2=y-mid:=⟨_,rfl⟩
       obtain ⟨mm,hmm⟩:∃ mm,mm=mid+1:=⟨_,rfl⟩
       have e5:wrapF .i64 ((mid:Int)-(x:Int))=(d1:Int):=by rw [wrapF_i64 (by omega) (by omega)]; omega
       have e6:wrapF .i64 ((y:Int)-(mid:Int))=(d2:Int):=by rw [wrapF_i64 (by omega) (by omega)]; omega
       have e7:wrapF .i64 ((mid:Int)+1)=(mm:Int):=by rw [wrapF_i64 (by omega) (by omega)]; omega
       by_cases cl:(d1:Int)<(d2:Int)
       ·simp [e5,e6,e8,cl]
        refine CallK.monoN ?_ (IH x mid _ L5 _ _ (by omega) (by omega) (by omega) S5 (by omega) (fun h0 p a1 a2=>pre5 h0 p a1 (by omega)))
        rintro _ h6 n6 ⟨L6,S6,Q6,H6⟩ hn6
        have fin:=DoneI.left D5 (by omega) hU hW m1 m2 r1 r2 Q6 H6
        rw [← hmm] at fin
        simp [e7,roundQ]
        exact ⟨(y)-(mm),by omega,h6,fun hok b o hb=>⟨o,hb,hok b o hb⟩,mm,y,rfl,by omega,by omega,by omega,_,_,_,L6,h6,_,F159_L1100_of,S6,by omega,(hP.trans (P6.mono hU hW)).trans (Q6.mono (by omega) (by omega)),(fin).1,(fin).2⟩
       ·simp [e5,e6,e7,e8,cl]
        refine CallK.monoN ?_ (IH mm y _ L5 _ _ (by omega) (by omega) (by omega) S5 (by omega) (fun h0 p a1 a2=>by rw [show mm-1=mid by omega]; exact r2 p (by omega) a2))
        rintro _ h6 n6 ⟨L6,S6,Q6,H6⟩ hn6
        rw [hmm] at Q6 H6
        have fin:=DoneI.right D5 pre5 (by omega) hU hW m1 m2 r1 r2 Q6 H6
        simp [roundQ]
        exact ⟨(mid)-(x),by omega,h6,fun hok b o hb=>⟨o,hb,hok b o hb⟩,x,mid,rfl,by omega,by omega,by omega,_,_,_,L6,h6,_,F159_L1100_of,S6,by omega,(hP.trans (P6.mono hU hW)).trans (Q6.mono (by omega) (by omega)),(fin).1,(fin).2⟩
    ·refine oK_no (by simp) ?_
     cases b2 with
     | false=>
      simp
      have pN:Nat.blt pv N=true:=by rw [Nat.blt_eq]; omega
      by_cases c0:0<x
      ·have c0':(0:Int)<(x:Int):=by omega
       obtain ⟨k,hk⟩:∃ k,k=x-1:=⟨_,rfl⟩
       have ek:wrapF .i64 ((x:Int)-1)=(k:Int):=by rw [wrapF_i64 (by omega) (by omega)]; omega
       have kN:Nat.blt k N=true:=by rw [Nat.blt_eq]; omega
       obtain ⟨u,bu,u1,u2,u3,u4,u5,u6,u7,u8,u9⟩:=S2.at (show k<N by omega)
       obtain ⟨v,bv,v1,v2,v3,v4,v5,v6,v7,v8,v9⟩:=S2.at (show pv<N by omega)
       simp [c0,ek,kN,pN,cellsAt,S2.get,u1,v1,u6,v6]
       refine compare_ok u4 v4 u5 v5 ?_
       intro z hz z1 z2
       rw [u8,v8] at hz
       by_cases hz0:z<0
       ·simp [hz0]
        refine CallK.monoN ?_ (part_ok (pv:=pv) hN' (by omega) (by omega) (by omega) S2)
        rintro _ h5 n5 ⟨mid,bq,L5,rfl,m1,m2,S5,P5,r1,r2⟩ hn5
        have P6:=P0.trans P5
        have hl5:=S5.len
        have D5:=hD.perm P6 hly hU hW
        have pre5:=hpre.perm P6 hly
        obtain ⟨d1,hd1⟩:∃ d1,d1=mid-x:=⟨_,rfl⟩
        obtain ⟨d2,hd2⟩:∃ d2,d2=y-mid:=⟨_,rfl⟩
        obtain ⟨mm,hmm⟩:∃ mm,mm=mid+1:=⟨_,rfl⟩
        have e5:wrapF .i64 ((mid:Int)-(x:Int))=(d1:Int):=by rw [wrapF_i64 (by omega) (by omega)]; omega
        have e6:wrapF .i64 ((y:Int)-(mid:Int))=(d2:Int):=by rw [wrapF_i64 (by omega) (by omega)]; omega
        have e7:wrapF .i64 ((mid:Int)+1)=(mm:Int):=by rw [wrapF_i64 (by omega) (by omega)]; omega
        by_cases cl:(d1:Int)<(d2:Int)
        ·simp [e5,e6,e8,cl]
         refine CallK.monoN ?_ (IH x mid _ L5 _ _ (by omega) (by omega) (by omega) S5 (by omega) (fun h0 p a1 a2=>pre5 h0 p a1 (by omega)))
         rintro _ h6 n6 ⟨L6,S6,Q6,H6⟩ hn6
         have fin:=DoneI.left D5 (by omega) hU hW m1 m2 r1 r2 Q6 H6
         rw [← hmm] at fin
         simp [e7,roundQ]
         exact ⟨(y)-(mm),by omega,h6,fun hok b o hb=>⟨o,hb,hok b o hb⟩,mm,y,rfl,by omega,by omega,by omega,_,_,_,L6,h6,_,F159_L1100_of,S6,by omega,(hP.trans (P6.mono hU hW)).trans (Q6.mono (by omega) (by omega)),(fin).1,(fin).2⟩
        ·simp [e5,e6,e7,e8,cl]
         refine CallK.monoN ?_ (IH mm y _ L5 _ _ (by omega) (by omega) (by omega) S5 (by omega) (fun h0 p a1 a2=>by rw [show mm-1=mid by omega]; exact r2 p (by omega) a2))
         rintro _ h6 n6 ⟨L6,S6,Q6,H6⟩ hn6
         rw [hmm] at Q6 H6
         have fin:=DoneI.right D5 pre5 (by omega) hU hW m1 m2 r1 r2 Q6 H6
         simp [roundQ]
         exact ⟨(mid)-(x),by omega,h6,fun hok b o hb=>⟨o,hb,hok b o hb⟩,x,mid,rfl,by omega,by omega,by omega,_,_,_,L6,h6,_,F159_L1100_of,S6,by omega,(hP.trans (P6.mono hU hW)).trans (Q6.mono (by omega) (by omega)),(fin).1,(fin).2⟩
       ·simp [hz0]
        have hge:kx f L pv≤kx f L (x-1):=by rw [← hk]; exact notI.1 fun hh=>hz0 (hz.2 hh)
        refine CallK.monoN ?_ (partEq_ok (pv:=pv) hN' (by omega) (by omega) (by omega) S2)
        rintro _ h5 n5 ⟨mid,L5,rfl,m1,m2,S5,P5,r1,r2⟩ hn5
        have D5:=hD.perm P0 hly hU hW
        have pre5:=hpre.perm P0 hly
        have hlL:=P0.len
        have fin:=DoneI.eq D5 pre5 (by omega) hge (by omega) hU hW m1 m2 P5 r1 r2
        simp [roundQ]
        exact ⟨(y)-(mid),by omega,h5,fun hok b o hb=>⟨o,hb,hok b o hb⟩,mid,y,rfl,by omega,by omega,by omega,_,_,_,L5,h5,_,F159_L1100_of,S5,by omega,(hP.trans (P0.mono hU hW)).trans (P5.mono (by omega) (by omega)),(fin).1,(fin).2⟩
      ·have c0':¬ (0:Int)<(x:Int):=by omega
       simp [c0]
       refine CallK.monoN ?_ (part_ok (pv:=pv) hN' (by omega) (by omega) (by omega) S2)
       rintro _ h5 n5 ⟨mid,bq,L5,rfl,m1,m2,S5,P5,r1,r2⟩ hn5
       have P6:=P0.trans P5
       have hl5:=S5.len
       have D5:=hD.perm P6 hly hU hW
       have pre5:=hpre.perm P6 hly
       obtain ⟨d1,hd1⟩:∃ d1,d1=mid-x:=⟨_,rfl⟩
       obtain ⟨d2,hd2⟩:∃ d2,d2=y-mid:=⟨_,rfl⟩
       obtain ⟨mm,hmm⟩:∃ mm,mm=mid+1:=⟨_,rfl⟩
       have e5:wrapF .i64 ((mid:Int)-(x:Int))=(d1:Int):=by rw [wrapF_i64 (by omega) (by omega)]; omega
       have e6:wrapF .i64 ((y:Int)-(mid:Int))=(d2:Int):=by rw [wrapF_i64 (by omega) (by omega)]; omega
       have e7:wrapF .i64 ((mid:Int)+1)=(mm:Int):=by rw [wrapF_i64 (by omega) (by omega)]; omega
       by_cases cl:(d1:Int)<(d2:Int)
       ·simp [e5,e6,e8,cl]
        refine CallK.monoN ?_ (IH x mid _ L5 _ _ (by omega) (by omega) (by omega) S5 (by omega) (fun h0 p a1 a2=>pre5 h0 p a1 (by omega)))
        rintro _ h6 n6 ⟨L6,S6,Q6,H6⟩ hn6
        have fin:=DoneI.left D5 (by omega) hU hW m1 m2 r1 r2 Q6 H6
        rw [← hmm] at fin
        simp [e7,roundQ]
        exact ⟨(y)-(mm),by omega,h6,fun hok b o hb=>⟨o,hb,hok b o hb⟩,mm,y,rfl,by omega,by omega,by omega,_,_,_,L6,h6,_,F159_L1100_of,S6,by omega,(hP.trans (P6.mono hU hW)).trans (Q6.mono (by omega) (by omega)),(fin).1,(fin).2⟩
       ·simp [e5,e6,e7,e8,cl]
        refine CallK.monoN ?_ (IH mm y _ L5 _ _ (by omega) (by omega) (by omega) S5 (by omega) (fun h0 p a1 a2=>by rw [show mm-1=mid by omega]; exact r2 p (by omega) a2))
        rintro _ h6 n6 ⟨L6,S6,Q6,H6⟩ hn6
        rw [hmm] at Q6 H6
        have fin:=DoneI.right D5 pre5 (by omega) hU hW m1 m2 r1 r2 Q6 H6
        simp [roundQ]
        exact ⟨(mid)-(x),by omega,h6,fun hok b o hb=>⟨o,hb,hok b o hb⟩,x,mid,rfl,by omega,by omega,by omega,_,_,_,L6,h6,_,F159_L1100_of,S6,by omega,(hP.trans (P6.mono hU hW)).trans (Q6.mono (by omega) (by omega)),(fin).1,(fin).2⟩
     | true=>
      simp
      refine CallK.monoN ?_ (pins_ok hN' (by omega) (by omega) S2 (hpre.perm P0 hly))
      rintro _ h4 n4 ⟨bp,L4,rfl,S4,P4,H4⟩ hn4
      cases bp with
      | true=>
       simp [roundQ]
       exact hQ1 _ _ _ ⟨L4,S4,(hP.trans ((P0.trans P4).mono hU hW)),(hD.perm (P0.trans P4) hly hU hW).fin (H4 rfl)⟩
      | false=>
       have P44:=P0.trans P4
       simp
       have pN:Nat.blt pv N=true:=by rw [Nat.blt_eq]; omega
       by_cases c0:0<x
       ·have c0':(0:Int)<(x:Int):=by omega
        obtain ⟨k,hk⟩:∃ k,k=x-1:=⟨_,rfl⟩
        have ek:wrapF .i64 ((x:Int)-1)=(k:Int):=by rw [wrapF_i64 (by omega) (by omega)]; omega
        have kN:Nat.blt k N=true:=by rw [Nat.blt_eq]; omega
        obtain ⟨u,bu,u1,u2,u3,u4,u5,u6,u7,u8,u9⟩:=S4.at (show k<N by omega)
        obtain ⟨v,bv,v1,v2,v3,v4,v5,v6,v7,v8,v9⟩:=S4.at (show pv<N by omega)
        simp [c0,ek,kN,pN,cellsAt,S4.get,u1,v1,u6,v6]
        refine compare_ok u4 v4 u5 v5 ?_
        intro z hz z1 z2
        rw [u8,v8] at hz
        by_cases hz0:z<0
        ·simp [hz0]
         refine CallK.monoN ?_ (part_ok (pv:=pv) hN' (by omega) (by omega) (by omega) S4)
         rintro _ h5 n5 ⟨mid,bq,L5,rfl,m1,m2,S5,P5,r1,r2⟩ hn5
         have P6:=P44.trans P5
         have hl5:=S5.len
         have D5:=hD.perm P6 hly hU hW
         have pre5:=hpre.perm P6 hly
         obtain ⟨d1,hd1⟩:∃ d1,d1=mid-x:=⟨_,rfl⟩
         obtain ⟨d2,hd2⟩:∃ d2,d2=y-mid:=⟨_,rfl⟩
         obtain ⟨mm,hmm⟩:∃ mm,mm=mid+1:=⟨_,rfl⟩
         have e5:wrapF .i64 ((mid:Int)-(x:Int))=(d1:Int):=by rw [wrapF_i64 (by omega) (by omega)]; omega
         have e6:wrapF .i64 ((y:Int)-(mid:Int))=(d2:Int):=by rw [wrapF_i64 (by omega) (by omega)]; omega
         have e7:wrapF .i64 ((mid:Int)+1)=(mm:Int):=by rw [wrapF_i64 (by omega) (by omega)]; omega
         by_cases cl:(d1:Int)<(d2:Int)
         ·simp [e5,e6,e8,cl]
          refine CallK.monoN ?_ (IH x mid _ L5 _ _ (by omega) (by omega) (by omega) S5 (by omega) (fun h0 p a1 a2=>pre5 h0 p a1 (by omega)))
          rintro _ h6 n6 ⟨L6,S6,Q6,H6⟩ hn6
          have fin:=DoneI.left D5 (by omega) hU hW m1 m2 r1 r2 Q6 H6
          rw [← hmm] at fin
          simp [e7,roundQ]
          exact ⟨(y)-(mm),by omega,h6,fun hok b o hb=>⟨o,hb,hok b o hb⟩,mm,y,rfl,by omega,by omega,by omega,_,_,_,L6,h6,_,F159_L1100_of,S6,by omega,(hP.trans (P6.mono hU hW)).trans (Q6.mono (by omega) (by omega)),(fin).1,(fin).2⟩
         ·simp [e5,e6,e7,e8,cl]
          refine CallK.monoN ?_ (IH mm y _ L5 _ _ (by omega) (by omega) (by omega) S5 (by omega) (fun h0 p a1 a2=>by rw [show mm-1=mid by omega]; exact r2 p (by omega) a2))
          rintro _ h6 n6 ⟨L6,S6,Q6,H6⟩ hn6
          rw [hmm] at Q6 H6
          have fin:=DoneI.right D5 pre5 (by omega) hU hW m1 m2 r1 r2 Q6 H6
          simp [roundQ]
          exact ⟨(mid)-(x),by omega,h6,fun hok b o hb=>⟨o,hb,hok b o hb⟩,x,mid,rfl,by omega,by omega,by omega,_,_,_,L6,h6,_,F159_L1100_of,S6,by omega,(hP.trans (P6.mono hU hW)).trans (Q6.mono (by omega) (by omega)),(fin).1,(fin).2⟩
        ·simp [hz0]
         have hge:kx f L4 pv≤kx f L4 (x-1):=by rw [← hk]; exact notI.1 fun hh=>hz0 (hz.2 hh)
         refine CallK.monoN ?_ (partEq_ok (pv:=pv) hN' (by omega) (by omega) (by omega) S4)
         rintro _ h5 n5 ⟨mid,L5,rfl,m1,m2,S5,P5,r1,r2⟩ hn5
         have D5:=hD.perm P44 hly hU hW
         have pre5:=hpre.perm P44 hly
         have hlL:=P44.len
         have fin:=DoneI.eq D5 pre5 (by omega) hge (by omega) hU hW m1 m2 P5 r1 r2
         simp [roundQ]
         exact ⟨(y)-(mid),by omega,h5,fun hok b o hb=>⟨o,hb,hok b o hb⟩,mid,y,rfl,by omega,by omega,by omega,_,_,_,L5,h5,_,F159_L1100_of,S5,by omega,(hP.trans (P44.mono hU hW)).trans (P5.mono (by omega) (by omega)),(fin).1,(fin).2⟩
       ·have c0':¬ (0:Int)<(x:Int):=by omega
        simp [c0]
        refine CallK.monoN ?_ (part_ok (pv:=pv) hN' (by omega) (by omega) (by omega) S4)
        rintro _ h5 n5 ⟨mid,bq,L5,rfl,m1,m2,S5,P5,r1,r2⟩ hn5
        have P6:=P44.trans P5
        have hl5:=S5.len
        have D5:=hD.perm P6 hly hU hW
        have pre5:=hpre.perm P6 hly
        obtain ⟨d1,hd1⟩:∃ d1,d1=mid-x:=⟨_,rfl⟩
        obtain ⟨d2,hd2⟩:∃ d2,d2=y-mid:=⟨_,rfl⟩
        obtain ⟨mm,hmm⟩:∃ mm,mm=mid+1:=⟨_,rfl⟩
        have e5:wrapF .i64 ((mid:Int)-(x:Int))=(d1:Int):=by rw [wrapF_i64 (by omega) (by omega)]; omega
        have e6:wrapF .i64 ((y:Int)-(mid:Int))=(d2:Int):=by rw [wrapF_i64 (by omega) (by omega)]; omega
        have e7:wrapF .i64 ((mid:Int)+1)=(mm:Int):=by rw [wrapF_i64 (by omega) (by omega)]; omega
        by_cases cl:(d1:Int)<(d2:Int)
        ·simp [e5,e6,e8,cl]
         refine CallK.monoN ?_ (IH x mid _ L5 _ _ (by omega) (by omega) (by omega) S5 (by omega) (fun h0 p a1 a2=>pre5 h0 p a1 (by omega)))
         rintro _ h6 n6 ⟨L6,S6,Q6,H6⟩ hn6
         have fin:=DoneI.left D5 (by omega) hU hW m1 m2 r1 r2 Q6 H6
         rw [← hmm] at fin
         simp [e7,roundQ]
         exact ⟨(y)-(mm),by omega,h6,fun hok b o hb=>⟨o,hb,hok b o hb⟩,mm,y,rfl,by omega,by omega,by omega,_,_,_,L6,h6,_,F159_L1100_of,S6,by omega,(hP.trans (P6.mono hU hW)).trans (Q6.mono (by omega) (by omega)),(fin).1,(fin).2⟩
        ·simp [e5,e6,e7,e8,cl]
         refine CallK.monoN ?_ (IH mm y _ L5 _ _ (by omega) (by omega) (by omega) S5 (by omega) (fun h0 p a1 a2=>by rw [show mm-1=mid by omega]; exact r2 p (by omega) a2))
         rintro _ h6 n6 ⟨L6,S6,Q6,H6⟩ hn6
         rw [hmm] at Q6 H6
         have fin:=DoneI.right D5 pre5 (by omega) hU hW m1 m2 r1 r2 Q6 H6
         simp [roundQ]
         exact ⟨(mid)-(x),by omega,h6,fun hok b o hb=>⟨o,hb,hok b o hb⟩,x,mid,rfl,by omega,by omega,by omega,_,_,_,L6,h6,_,F159_L1100_of,S6,by omega,(hP.trans (P6.mono hU hW)).trans (Q6.mono (by omega) (by omega)),(fin).1,(fin).2⟩
    ·refine oK_yes (by simp) ?_
     refine CallK.monoN ?_ (rev_ok hN' (by omega) (by omega) S2)
     rintro _ h3 n3 ⟨L3,S3,P3⟩ hn3
     have P33:=P0.trans P3
     obtain ⟨q1,hq1⟩:∃ q1,q1=y-1:=⟨_,rfl⟩
     obtain ⟨q2,hq2⟩:∃ q2,q2=pv-x:=⟨_,rfl⟩
     obtain ⟨q3,hq3⟩:∃ q3,q3=q1-q2:=⟨_,rfl⟩
     have eq1:wrapF .i64 ((y:Int)-1)=(q1:Int):=by rw [wrapF_i64 (by omega) (by omega)]; omega
     have eq2:wrapF .i64 ((pv:Int)-(x:Int))=(q2:Int):=by rw [wrapF_i64 (by omega) (by omega)]; omega
     have eq3:wrapF .i64 ((q1:Int)-(q2:Int))=(q3:Int):=by rw [wrapF_i64 (by omega) (by omega)]; omega
     refine oK_intro (v:=.s (.int .i64 (q1:Nat))) (by simp [eq1]) ?_
     refine oK_intro (v:=.s (.int .i64 (q2:Nat))) (by simp [eq2]) ?_
     refine oK_intro (v:=.s (.int .i64 (q3:Nat))) (by simp [eq3]) ?_
     cases b2 with
     | false=>
      simp
      have pN:Nat.blt q3 N=true:=by rw [Nat.blt_eq]; omega
      by_cases c0:0<x
      ·have c0':(0:Int)<(x:Int):=by omega
       obtain ⟨k,hk⟩:∃ k,k=x-1:=⟨_,rfl⟩
       have ek:wrapF .i64 ((x:Int)-1)=(k:Int):=by rw [wrapF_i64 (by omega) (by omega)]; omega
       have kN:Nat.blt k N=true:=by rw [Nat.blt_eq]; omega
       obtain ⟨u,bu,u1,u2,u3,u4,u5,u6,u7,u8,u9⟩:=S3.at (show k<N by omega)
       obtain ⟨v,bv,v1,v2,v3,v4,v5,v6,v7,v8,v9⟩:=S3.at (show q3<N by omega)
       simp [c0,ek,kN,pN,cellsAt,S3.get,u1,v1,u6,v6]
       refine compare_ok u4 v4 u5 v5 ?_
       intro z hz z1 z2
       rw [u8,v8] at hz
       by_cases hz0:z<0
       ·simp [hz0]
        refine CallK.monoN ?_ (part_ok (pv:=q3) hN' (by omega) (by omega) (by omega) S3)
        rintro _ h5 n5 ⟨mid,bq,L5,rfl,m1,m2,S5,P5,r1,r2⟩ hn5
        have P6:=P33.trans P5
        have hl5:=S5.len
        have D5:=hD.perm P6 hly hU hW
        have pre5:=hpre.perm P6 hly
        obtain ⟨d1,hd1⟩:∃ d1,d1=mid-x:=⟨_,rfl⟩
        obtain ⟨d2,hd2⟩:∃ d2,d2=y-mid:=⟨_,rfl⟩
        obtain ⟨mm,hmm⟩:∃ mm,mm=mid+1:=⟨_,rfl⟩
        have e5:wrapF .i64 ((mid:Int)-(x:Int))=(d1:Int):=by rw [wrapF_i64 (by omega) (by omega)]; omega
        have e6:wrapF .i64 ((y:Int)-(mid:Int))=(d2:Int):=by rw [wrapF_i64 (by omega) (by omega)]; omega
        have e7:wrapF .i64 ((mid:Int)+1)=(mm:Int):=by rw [wrapF_i64 (by omega) (by omega)]; omega
        by_cases cl:(d1:Int)<(d2:Int)
        ·simp [e5,e6,e8,cl]
         refine CallK.monoN ?_ (IH x mid _ L5 _ _ (by omega) (by omega) (by omega) S5 (by omega) (fun h0 p a1 a2=>pre5 h0 p a1 (by omega)))
         rintro _ h6 n6 ⟨L6,S6,Q6,H6⟩ hn6
         have fin:=DoneI.left D5 (by omega) hU hW m1 m2 r1 r2 Q6 H6
         rw [← hmm] at fin
         simp [e7,roundQ]
         exact ⟨(y)-(mm),by omega,h6,fun hok b o hb=>⟨o,hb,hok b o hb⟩,mm,y,rfl,by omega,by omega,by omega,_,_,_,L6,h6,_,F159_L1100_of,S6,by omega,(hP.trans (P6.mono hU hW)).trans (Q6.mono (by omega) (by omega)),(fin).1,(fin).2⟩
        ·simp [e5,e6,e7,e8,cl]
         refine CallK.monoN ?_ (IH mm y _ L5 _ _ (by omega) (by omega) (by omega) S5 (by omega) (fun h0 p a1 a2=>by rw [show mm-1=mid by omega]; exact r2 p (by omega) a2))
         rintro _ h6 n6 ⟨L6,S6,Q6,H6⟩ hn6
         rw [hmm] at Q6 H6
         have fin:=DoneI.right D5 pre5 (by omega) hU hW m1 m2 r1 r2 Q6 H6
         simp [roundQ]
         exact ⟨(mid)-(x),by omega,h6,fun hok b o hb=>⟨o,hb,hok b o hb⟩,x,mid,rfl,by omega,by omega,by omega,_,_,_,L6,h6,_,F159_L1100_of,S6,by omega,(hP.trans (P6.mono hU hW)).trans (Q6.mono (by omega) (by omega)),(fin).1,(fin).2⟩
       ·simp [hz0]
        have hge:kx f L3 q3≤kx f L3 (x-1):=by rw [← hk]; exact notI.1 fun hh=>hz0 (hz.2 hh)
        refine CallK.monoN ?_ (partEq_ok (pv:=q3) hN' (by omega) (by omega) (by omega) S3)
        rintro _ h5 n5 ⟨mid,L5,rfl,m1,m2,S5,P5,r1,r2⟩ hn5
        have D5:=hD.perm P33 hly hU hW
        have pre5:=hpre.perm P33 hly
        have hlL:=P33.len
        have fin:=DoneI.eq D5 pre5 (by omega) hge (by omega) hU hW m1 m2 P5 r1 r2
        simp [roundQ]
        exact ⟨(y)-(mid),by omega,h5,fun hok b o hb=>⟨o,hb,hok b o hb⟩,mid,y,rfl,by omega,by omega,by omega,_,_,_,L5,h5,_,F159_L1100_of,S5,by omega,(hP.trans (P33.mono hU hW)).trans (P5.mono (by omega) (by omega)),(fin).1,(fin).2⟩
      ·have c0':¬ (0:Int)<(x:Int):=by omega
       simp [c0]
       refine CallK.monoN ?_ (part_ok (pv:=q3) hN' (by omega) (by omega) (by omega) S3)
       rintro _ h5 n5 ⟨mid,bq,L5,rfl,m1,m2,S5,P5,r1,r2⟩ hn5
       have P6:=P33.trans P5
       have hl5:=S5.len
       have D5:=hD.perm P6 hly hU hW
       have pre5:=hpre.perm P6 hly
       obtain ⟨d1,hd1⟩:∃ d1,d1=mid-x:=⟨_,rfl⟩
       obtain ⟨d2,hd2⟩:∃ d2,d2=y-mid:=⟨_,rfl⟩
       obtain ⟨mm,hmm⟩:∃ mm,mm=mid+1:=⟨_,rfl⟩
       have e5:wrapF .i64 ((mid:Int)-(x:Int))=(d1:Int):=by rw [wrapF_i64 (by omega) (by omega)]; omega
       have e6:wrapF .i64 ((y:Int)-(mid:Int))=(d2:Int):=by rw [wrapF_i64 (by omega) (by omega)]; omega
       have e7:wrapF .i64 ((mid:Int)+1)=(mm:Int):=by rw [wrapF_i64 (by omega) (by omega)]; omega
       by_cases cl:(d1:Int)<(d2:Int)
       ·simp [e5,e6,e8,cl]
        refine CallK.monoN ?_ (IH x mid _ L5 _ _ (by omega) (by omega) (by omega) S5 (by omega) (fun h0 p a1 a2=>pre5 h0 p a1 (by omega)))
        rintro _ h6 n6 ⟨L6,S6,Q6,H6⟩ hn6
        have fin:=DoneI.left D5 (by omega) hU hW m1 m2 r1 r2 Q6 H6
        rw [← hmm] at fin
        simp [e7,roundQ]
        exact ⟨(y)-(mm),by omega,h6,fun hok b o hb=>⟨o,hb,hok b o hb⟩,mm,y,rfl,by omega,by omega,by omega,_,_,_,L6,h6,_,F159_L1100_of,S6,by omega,(hP.trans (P6.mono hU hW)).trans (Q6.mono (by omega) (by omega)),(fin).1,(fin).2⟩
       ·simp [e5,e6,e7,e8,cl]
        refine CallK.monoN ?_ (IH mm y _ L5 _ _ (by omega) (by omega) (by omega) S5 (by omega) (fun h0 p a1 a2=>by rw [show mm-1=mid by omega]; exact r2 p (by omega) a2))
        rintro _ h6 n6 ⟨L6,S6,Q6,H6⟩ hn6
        rw [hmm] at Q6 H6
        have fin:=DoneI.right D5 pre5 (by omega) hU hW m1 m2 r1 r2 Q6 H6
        simp [roundQ]
        exact ⟨(mid)-(x),by omega,h6,fun hok b o hb=>⟨o,hb,hok b o hb⟩,x,mid,rfl,by omega,by omega,by omega,_,_,_,L6,h6,_,F159_L1100_of,S6,by omega,(hP.trans (P6.mono hU hW)).trans (Q6.mono (by omega) (by omega)),(fin).1,(fin).2⟩
     | true=>
      simp
      refine CallK.monoN ?_ (pins_ok hN' (by omega) (by omega) S3 (hpre.perm P33 hly))
      rintro _ h4 n4 ⟨bp,L4,rfl,S4,P4,H4⟩ hn4
      cases bp with
      | true=>
       simp [roundQ]
       exact hQ1 _ _ _ ⟨L4,S4,(hP.trans ((P33.trans P4).mono hU hW)),(hD.perm (P33.trans P4) hly hU hW).fin (H4 rfl)⟩
      | false=>
       have P44:=P33.trans P4
       simp
       have pN:Nat.blt q3 N=true:=by rw [Nat.blt_eq]; omega
       by_cases c0:0<x
       ·have c0':(0:Int)<(x:Int):=by omega
        obtain ⟨k,hk⟩:∃ k,k=x-1:=⟨_,rfl⟩
        have ek:wrapF .i64 ((x:Int)-1)=(k:Int):=by rw [wrapF_i64 (by omega) (by omega)]; omega
        have kN:Nat.blt k N=true:=by rw [Nat.blt_eq]; omega
        obtain ⟨u,bu,u1,u2,u3,u4,u5,u6,u7,u8,u9⟩:=S4.at (show k<N by omega)
        obtain ⟨v,bv,v1,v2,v3,v4,v5,v6,v7,v8,v9⟩:=S4.at (show q3<N by omega)
        simp [c0,ek,kN,pN,cellsAt,S4.get,u1,v1,u6,v6]
        refine compare_ok u4 v4 u5 v5 ?_
        intro z hz z1 z2
        rw [u8,v8] at hz
        by_cases hz0:z<0
        ·simp [hz0]
         refine CallK.monoN ?_ (part_ok (pv:=q3) hN' (by omega) (by omega) (by omega) S4)
         rintro _ h5 n5 ⟨mid,bq,L5,rfl,m1,m2,S5,P5,r1,r2⟩ hn5
         have P6:=P44.trans P5
         have hl5:=S5.len
         have D5:=hD.perm P6 hly hU hW
         have pre5:=hpre.perm P6 hly
         obtain ⟨d1,hd1⟩:∃ d1,d1=mid-x:=⟨_,rfl⟩
         obtain ⟨d2,hd2⟩:∃ d2,d2=y-mid:=⟨_,rfl⟩
         obtain ⟨mm,hmm⟩:∃ mm,mm=mid+1:=⟨_,rfl⟩
         have e5:wrapF .i64 ((mid:Int)-(x:Int))=(d1:Int):=by rw [wrapF_i64 (by omega) (by omega)]; omega
         have e6:wrapF .i64 ((y:Int)-(mid:Int))=(d2:Int):=by rw [wrapF_i64 (by omega) (by omega)]; omega
         have e7:wrapF .i64 ((mid:Int)+1)=(mm:Int):=by rw [wrapF_i64 (by omega) (by omega)]; omega
         by_cases cl:(d1:Int)<(d2:Int)
         ·simp [e5,e6,e8,cl]
          refine CallK.monoN ?_ (IH x mid _ L5 _ _ (by omega) (by omega) (by omega) S5 (by omega) (fun h0 p a1 a2=>pre5 h0 p a1 (by omega)))
          rintro _ h6 n6 ⟨L6,S6,Q6,H6⟩ hn6
          have fin:=DoneI.left D5 (by omega) hU hW m1 m2 r1 r2 Q6 H6
          rw [← hmm] at fin
          simp [e7,roundQ]
          exact ⟨(y)-(mm),by omega,h6,fun hok b o hb=>⟨o,hb,hok b o hb⟩,mm,y,rfl,by omega,by omega,by omega,_,_,_,L6,h6,_,F159_L1100_of,S6,by omega,(hP.trans (P6.mono hU hW)).trans (Q6.mono (by omega) (by omega)),(fin).1,(fin).2⟩
         ·simp [e5,e6,e7,e8,cl]
          refine CallK.monoN ?_ (IH mm y _ L5 _ _ (by omega) (by omega) (by omega) S5 (by omega) (fun h0 p a1 a2=>by rw [show mm-1=mid by omega]; exact r2 p (by omega) a2))
          rintro _ h6 n6 ⟨L6,S6,Q6,H6⟩ hn6
          rw [hmm] at Q6 H6
          have fin:=DoneI.right D5 pre5 (by omega) hU hW m1 m2 r1 r2 Q6 H6
          simp [roundQ]
          exact ⟨(mid)-(x),by omega,h6,fun hok b o hb=>⟨o,hb,hok b o hb⟩,x,mid,rfl,by omega,by omega,by omega,_,_,_,L6,h6,_,F159_L1100_of,S6,by omega,(hP.trans (P6.mono hU hW)).trans (Q6.mono (by omega) (by omega)),(fin).1,(fin).2⟩
        ·simp [hz0]
         have hge:kx f L4 q3≤kx f L4 (x-1):=by rw [← hk]; exact notI.1 fun hh=>hz0 (hz.2 hh)
         refine CallK.monoN ?_ (partEq_ok (pv:=q3) hN' (by omega) (by omega) (by omega) S4)
         rintro _ h5 n5 ⟨mid,L5,rfl,m1,m2,S5,P5,r1,r2⟩ hn5
         have D5:=hD.perm P44 hly hU hW
         have pre5:=hpre.perm P44 hly
         have hlL:=P44.len
         have fin:=DoneI.eq D5 pre5 (by omega) hge (by omega) hU hW m1 m2 P5 r1 r2
         simp [roundQ]
         exact ⟨(y)-(mid),by omega,h5,fun hok b o hb=>⟨o,hb,hok b o hb⟩,mid,y,rfl,by omega,by omega,by omega,_,_,_,L5,h5,_,F159_L1100_of,S5,by omega,(hP.trans (P44.mono hU hW)).trans (P5.mono (by omega) (by omega)),(fin).1,(fin).2⟩
       ·have c0':¬ (0:Int)<(x:Int):=by omega
        simp [c0]
        refine CallK.monoN ?_ (part_ok (pv:=q3) hN' (by omega) (by omega) (by omega) S4)
        rintro _ h5 n5 ⟨mid,bq,L5,rfl,m1,m2,S5,P5,r1,r2⟩ hn5
        have P6:=P44.trans P5
        have hl5:=S5.len
        have D5:=hD.perm P6 hly hU hW
        have pre5:=hpre.perm P6 hly
        obtain ⟨d1,hd1⟩:∃ d1,d1=mid-x:=⟨_,rfl⟩
        obtain ⟨d2,hd2⟩:∃ d2,d2=y-mid:=⟨_,rfl⟩
        obtain ⟨mm,hmm⟩:∃ mm,mm=mid+1:=⟨_,rfl⟩
        have e5:wrapF .i64 ((mid:Int)-(x:Int))=(d1:Int):=by rw [wrapF_i64 (by omega) (by omega)]; omega
        have e6:wrapF .i64 ((y:Int)-(mid:Int))=(d2:Int):=by rw [wrapF_i64 (by omega) (by omega)]; omega
        have e7:wrapF .i64 ((mid:Int)+1)=(mm:Int):=by rw [wrapF_i64 (by omega) (by omega)]; omega
        by_cases cl:(d1:Int)<(d2:Int)
        ·simp [e5,e6,e8,cl]
         refine CallK.monoN ?_ (IH x mid _ L5 _ _ (by omega) (by omega) (by omega) S5 (by omega) (fun h0 p a1 a2=>pre5 h0 p a1 (by omega)))
         rintro _ h6 n6 ⟨L6,S6,Q6,H6⟩ hn6
         have fin:=DoneI.left D5 (by omega) hU hW m1 m2 r1 r2 Q6 H6
         rw [← hmm] at fin
         simp [e7,roundQ]
         exact ⟨(y)-(mm),by omega,h6,fun hok b o hb=>⟨o,hb,hok b o hb⟩,mm,y,rfl,by omega,by omega,by omega,_,_,_,L6,h6,_,F159_L1100_of,S6,by omega,(hP.trans (P6.mono hU hW)).trans (Q6.mono (by omega) (by omega)),(fin).1,(fin).2⟩
        ·simp [e5,e6,e7,e8,cl]
         refine CallK.monoN ?_ (IH mm y _ L5 _ _ (by omega) (by omega) (by omega) S5 (by omega) (fun h0 p a1 a2=>by rw [show mm-1=mid by omega]; exact r2 p (by omega) a2))
         rintro _ h6 n6 ⟨L6,S6,Q6,H6⟩ hn6
         rw [hmm] at Q6 H6
         have fin:=DoneI.right D5 pre5 (by omega) hU hW m1 m2 r1 r2 Q6 H6
         simp [roundQ]
         exact ⟨(mid)-(x),by omega,h6,fun hok b o hb=>⟨o,hb,hok b o hb⟩,x,mid,rfl,by omega,by omega,by omega,_,_,_,L6,h6,_,F159_L1100_of,S6,by omega,(hP.trans (P6.mono hU hW)).trans (Q6.mono (by omega) (by omega)),(fin).1,(fin).2⟩
theorem pdq_ok (hN:N≤64):∀ M (x y:Nat) (lim:Int) (L:List V) (h:Heap) (n:Nat),y-x<M→x≤y→y≤N→Srt h0 n0 a N f L h→n0≤n→PredI f x y L→CallK CC 159 [.slice a 0 N c op,.s (.int .i64 (x:Nat)),.s (.int .i64 (y:Nat)),.s (.int .i64 lim),cmpF] h n fun _ h' n'=>SortP h0 n0 a N f x y L h'
 | 0,_,_,_,_,_,_,h,_,_,_,_,_=>by omega
 | M+1,x,y,lim,L,h,n,h1,h2,h3,S,hn,hpre=>by
  refine F159_call fun hlt=>?_
  rw [F159_eq]
  try simp
  refine pdq_loop (U:=x) (W:=y) (M:=M) (L0:=L) hN h3 (by omega) (fun x' y' lim' L' h' n' a1=>pdq_ok hN M x' y' lim' L' h' n' a1) ?_ _ _ ⟨x,y,rfl,by omega,h2,by omega,lim,true,true,L,h,n,F159_L1100_of,S,hn,PermIn.refl _ _ _,fun p q _ _ _ _=>by omega,hpre⟩
  intro h' n' T hp
  simp [resume,retW,dropDefs]
  exact hp
end
end Go.Ev
end
section
namespace Go.Ev
open Proofs
set_option maxRecDepth 20000
def NN (x:Nat):Prop:=(Ieee.double.read x).isNaN=false
def FinF (x:Nat):Prop:=∃ s m e,Ieee.double.read x=.number s m e
structure HashR where
 key:Nat
 mx:Int
 n:Int
 ks:List Int
 st:List Int
 cs:List Int
structure DeclR where
 kind:Int
 key:Int
 val:Int
 mx:Int
structure EvR where
 kind:Int
 map:Int
 idx:Int
 cell:Int
 key:List Int
inductive ByP where
 | progs (l:List Int)
 | arr (a:Nat)
 | hash (a:Nat)
 | lru (a:Nat)
inductive Ob where
 | part (b i:Nat)
 | cell (id:Int) (l:List Int) (dr:Bool)
 | cmap (g:Int→Option Nat)
 | cells (M:Nat) (last:Int)
 | arr (i:Nat) (ids:List Int)
 | hash (i:Nat) (R:HashR)
 | lru (i key most:Nat) (rows:List (List Int×Int))
 | one (i:Nat) (d:DeclR) (by_:ByP)
 | maps (c:Nat) (L:List Nat) (now:Int) (ev:List EvR)
abbrev Gh:=Nat→Option Ob
def kV (k:IntKind) (l:List Int):List V:=l.map fun x=>.s (.int k x)
@[simp] theorem kV_length (k:IntKind) (l:List Int):(kV k l).length=l.length:=by simp [kV]
theorem kV_get {k:IntKind} {l:List Int} {i:Nat} (h:i<l.length):(kV k l)[i]? = some (.s (.int k l[i])):=by simp [kV,h]
theorem kV_u8 (l:List Int):kV .u8 l=bytesV' l:=rfl
def NumsS (τ:Gh) (h:Heap) (b i:Nat) (k:IntKind) (v:V) (l:List Int):Prop:=
 ∃ d o c op A es,v=.slice d o l.length c op∧τ d=some (.part b i)∧h.get d=some (.cells (.lst A) es)∧(A.drop o).take l.length=kV k l∧l.length≤c∧o+l.length≤A.length
def rowsV:List (List Int×Int)→List V
 | []=>[]
 | r::l=>.s (.string (ofI r.1))::.s (.int .i64 r.2)::rowsV l
def RowsS (τ:Gh) (h:Heap) (b:Nat) (v:V) (l:List (List Int×Int)):Prop:=
 (v=.s (.slice none 0 0)∧l=[])∨∃ d o c op A es,v=.slice d o l.length c op∧τ d=some (.part b 0)∧h.get d=some (.cells (.lst A) es)∧(A.drop o).take (2*l.length)=rowsV l∧l.length≤c∧o+2*l.length≤A.length
def GrowM (τ:Gh) (h:Heap) (b i:Nat) (v:V) (k n:Nat) (cs:List V):Prop:=(v=.s (.slice none 0 0)∧n=0∧cs=[])∨(v≠.s (.slice none 0 0)∧∃ d,τ d=some (.part b i)∧GrowAt h d v k n cs)
def EvsV (τ:Gh) (h:Heap) (b:Nat):List EvR→List V→Prop
 | [],cs=>cs=[]
 | e::l,cs=>∃ kv cs',cs=.s (.int .i64 e.kind)::.s (.int .i64 e.map)::.s (.int .i64 e.idx)::.s (.int .i64 e.cell)::kv::cs'∧(kv=.s (.slice none 0 0)∧e.key=[]∨∃ d,τ d=some (.part b 2)∧BytesAt h d kv e.key)∧EvsV τ h b l cs'
def byV:ByP→V
 | .progs _=>.s .nilIface
 | .arr a=>.iface 180 (.ptr a 0)
 | .hash a=>.iface 182 (.ptr a 0)
 | .lru a=>.iface 184 (.ptr a 0)
structure HashR.Fine (R:HashR):Prop where
 ks:R.ks.length=R.st.length*R.key
 cs:R.cs.length=R.st.length
 p1:1≤R.st.length
 p2:R.st.length≤1024
 k1:1≤R.key
 k2:R.key≤16
 by_:Byt R.ks
def WT (τ:Gh) (h:Heap) (b:Nat):Ob→Prop
 | .part _ _=>True
 | .cell id l dr=>∃ v wr s1 s2 bw la,h.get b=some (.cells (.lst [v,.s (.int .i64 wr),.s (.complex .f64 s1 s2),.s (.int .i64 bw),.s (.int .i64 la),.s (.bool dr)]) 6)∧NumsS τ h b 0 .u8 v l∧1≤l.length∧l.length≤64∧NN s1∧NN s2∧Byt l
 | .cmap g=>∃ es ck,h.get b=some (.map es ck)∧EntOf g es
 | .cells M last=>h.get b=some (.cells (.lst [.map M,.s (.int .i64 last)]) 2)
 | .arr _ ids=>∃ v,h.get b=some (.cells (.lst [v]) 1)∧NumsS τ h b 0 .i64 v ids∧ids.length≤64
 | .hash _ R=>∃ ks st cs,h.get b=some (.cells (.lst [.s (.int .i64 (R.key:Nat)),.s (.int .i64 R.mx),.s (.int .i64 R.n),ks,st,cs]) 6)∧NumsS τ h b 0 .u8 ks R.ks∧NumsS τ h b 1 .u8 st R.st∧NumsS τ h b 2 .i64 cs R.cs∧R.Fine
 | .lru _ key most rows=>∃ v,h.get b=some (.cells (.lst [.s (.int .i64 (key:Nat)),.s (.int .i64 (most:Nat)),v]) 3)∧RowsS τ h b v rows∧key≤16∧rows.length≤most∧1≤most∧most≤64∧∀ r∈rows,Byt r.1∧r.1.length≤16
 | .one _ d by_=>∃ pv,h.get b=some (.cells (.lst [.s (.int .i64 d.kind),.s (.int .i64 d.key),.s (.int .i64 d.val),.s (.int .i64 d.mx),byV by_,pv]) 6)∧((∃ l,by_=.progs l∧NumsS τ h b 0 .i64 pv l)∨(pv=.s (.slice none 0 0)∧∀ l,by_≠.progs l))
 | .maps c L now evs=>∃ lv ev es,h.get b=some (.cells (.lst [.ptr c 0,lv,.s (.int .i64 now),ev]) 4)∧GrowM τ h b 0 lv 1 L.length (L.map fun p=>.ptr p 0)∧GrowM τ h b 1 ev 5 evs.length es∧EvsV τ h b evs es
def TInv (τ:Gh) (h:Heap) (n:Nat):Prop:=∀ b k,τ b=some k→b<n∧WT τ h b k
abbrev Fp:=Nat→Ob→Prop
def noFp:Fp:=fun _ _=>False
def onlyFp (b:Nat):Fp:=fun x _=>x=b
def cellFp:Fp:=fun _ k=>match k with
 | .cell _ _ _=>True
 | .cmap _=>True
 | .cells _ _=>True
 | _=>False
def anyFp:Fp:=fun _ _=>True
structure Keep (fp:Fp) (τ τ':Gh) (n:Nat) (h h':Heap):Prop where
 ty:∀ b k,b<n→τ b=some k→(¬ fp b k∨∃ x i,k=.part x i)→τ' b=some k
 non:∀ b,b<n→τ b=none→τ' b=none∧h'.get b=h.get b
 mem:∀ b k x,b<n→x<n→τ b=some k→(∀ y i,k≠.part y i)→¬ fp b k→(x=b∨∃ i,τ x=some (.part b i))→h'.get x=h.get x
def Ob.isPart (k:Ob):Prop:=∃ x i,k=.part x i
section
variable {τ τ' τ'':Gh} {h h' h'':Heap} {n n' n'' b:Nat} {fp:Fp}
theorem NumsS.of {i:Nat} {k:IntKind} {v:V} {l:List Int} (H:NumsS τ h b i k v l) (e:∀ x,τ x=some (.part b i)→h'.get x=h.get x∧τ' x=some (.part b i)):NumsS τ' h' b i k v l:=by
 obtain ⟨d,o,c,op,A,es,h1,h2,h3,h4⟩:=H
 exact ⟨d,o,c,op,A,es,h1,(e d h2).2,by rw [(e d h2).1]; exact h3,h4⟩
theorem RowsS.of {v:V} {l:List (List Int×Int)} (H:RowsS τ h b v l) (e:∀ x,τ x=some (.part b 0)→h'.get x=h.get x∧τ' x=some (.part b 0)):RowsS τ' h' b v l:=by
 rcases H with H | ⟨d,o,c,op,A,es,h1,h2,h3,h4⟩
 ·exact .inl H
 ·exact .inr ⟨d,o,c,op,A,es,h1,(e d h2).2,by rw [(e d h2).1]; exact h3,h4⟩
theorem GrowM.of {i k m:Nat} {v:V} {cs:List V} (H:GrowM τ h b i v k m cs) (e:∀ x,τ x=some (.part b i)→h'.get x=h.get x∧τ' x=some (.part b i)):GrowM τ' h' b i v k m cs:=by
 rcases H with H | ⟨h1,d,h2,h3⟩
 ·exact .inl H
 ·exact .inr ⟨h1,d,(e d h2).2,h3.of (e d h2).1⟩
theorem EvsV.of:∀ {l:List EvR} {cs:List V},EvsV τ h b l cs→(∀ x,τ x=some (.part b 2)→h'.get x=h.get x∧τ' x=some (.part b 2))→EvsV τ' h' b l cs
 | [],_,H,_=>H
 | e::l,_,⟨kv,cs',h1,h2,h3⟩,E=>⟨kv,cs',h1,by
   rcases h2 with h2 | ⟨d,h2,h4⟩
   ·exact .inl h2
   ·exact .inr ⟨d,(E d h2).2,h4.of (E d h2).1⟩,EvsV.of h3 E⟩
theorem WT.of {k:Ob} (H:WT τ h b k) (e0:h'.get b=h.get b) (e:∀ x i,τ x=some (.part b i)→h'.get x=h.get x∧τ' x=some (.part b i)):WT τ' h' b k:=by
 cases k with
 | part=>exact H
 | cell id l dr=>
  obtain ⟨v,wr,s1,s2,bw,la,h1,h2,h3⟩:=H
  exact ⟨v,wr,s1,s2,bw,la,by rw [e0]; exact h1,h2.of fun x=>e x 0,h3⟩
 | cmap g=>obtain ⟨es,ck,h1,h2⟩:=H; exact ⟨es,ck,by rw [e0]; exact h1,h2⟩
 | cells=>exact e0.trans H
 | arr=>obtain ⟨v,h1,h2,h3⟩:=H; exact ⟨v,by rw [e0]; exact h1,h2.of fun x=>e x 0,h3⟩
 | hash i R=>obtain ⟨ks,st,cs,h1,h2,h3,h4,h5⟩:=H; exact ⟨ks,st,cs,by rw [e0]; exact h1,h2.of fun x=>e x 0,h3.of fun x=>e x 1,h4.of fun x=>e x 2,h5⟩
 | lru i key most rows=>obtain ⟨v,h1,h2,h3⟩:=H; exact ⟨v,by rw [e0]; exact h1,h2.of fun x=>e x 0,h3⟩
 | one i d by_=>
  obtain ⟨pv,h1,h2⟩:=H
  refine ⟨pv,by rw [e0]; exact h1,?_⟩
  rcases h2 with ⟨l,h2,h3⟩ | h2
  ·exact .inl ⟨l,h2,h3.of fun x=>e x 0⟩
  ·exact .inr h2
 | maps c L now evs=>obtain ⟨lv,ev,es,h1,h2,h3,h4⟩:=H; exact ⟨lv,ev,es,by rw [e0]; exact h1,h2.of fun x=>e x 0,h3.of fun x=>e x 1,h4.of fun x=>e x 2⟩
theorem TInv.go (b:Nat) (I:TInv τ h n) (hn:n≤n') (hb:∀ x i,τ b≠some (.part x i)) (t:∀ x,x<n→x≠b→τ' x=τ x)
  (s:∀ x,x<n→x≠b→(∀ i,τ x≠some (.part b i))→h'.get x=h.get x)
  (w:∀ x k,τ' x=some k→(x=b∨n≤x)→x<n'∧WT τ' h' x k):TInv τ' h' n':=by
 intro x k e
 by_cases hx:x=b∨n≤x
 ·exact w x k e hx
 ·have hxn:x<n:=by omega
  have hxb:x≠b:=fun h=>hx (.inl h)
  rw [t x hxn hxb] at e
  obtain ⟨h1,h2⟩:=I x k e
  refine ⟨by omega,?_⟩
  by_cases hk:k.isPart
  ·obtain ⟨y,i,rfl⟩:=hk
   exact trivial
  ·refine h2.of (s x hxn hxb fun i e'=>hk ⟨b,i,by rw [e] at e'; exact (Option.some.inj e')⟩) fun y i ey=>?_
   have hyn:=(I y _ ey).1
   have hyb:y≠b:=fun h=>hb x i (h ▸ ey)
   refine ⟨s y hyn hyb fun j e'=>?_,by rw [t y hyn hyb]; exact ey⟩
   rw [ey] at e'
   cases e'
   exact hxb rfl
theorem Keep.refl (fp:Fp) (τ:Gh) (n:Nat) (h:Heap):Keep fp τ τ n h h:=⟨fun _ _ _ e _=>e,fun _ _ e=>⟨e,rfl⟩,fun _ _ _ _ _ _ _ _ _=>rfl⟩
theorem Keep.trans (a:Keep fp τ τ' n h h') (hn:n≤n') (c:Keep fp τ' τ'' n' h' h''):Keep fp τ τ'' n h h'':=
 ⟨fun b k hb e hf=>c.ty b k (by omega) (a.ty b k hb e hf) hf,fun b hb e=>by
  have h1:=a.non b hb e
  have h2:=c.non b (by omega) h1.1
  exact ⟨h2.1,h2.2.trans h1.2⟩,fun b k x hb hx e hk hf hp=>by
  have e':=a.ty b k hb e (.inl hf)
  refine (c.mem b k x (by omega) (by omega) e' hk hf ?_).trans (a.mem b k x hb hx e hk hf hp)
  rcases hp with hp | ⟨i,hp⟩
  ·exact .inl hp
  ·exact .inr ⟨i,a.ty x _ hx hp (.inr ⟨_,_,rfl⟩)⟩⟩
theorem Keep.mono {fq:Fp} (a:Keep fp τ τ' n h h') (H:∀ b k,τ b=some k→fp b k→fq b k):Keep fq τ τ' n h h':=
 ⟨fun b k hb e hf=>a.ty b k hb e (hf.imp (fun hf h=>hf (H b k e h)) id),a.non,fun b k x hb hx e hk hf hp=>a.mem b k x hb hx e hk (fun h=>hf (H b k e h)) hp⟩
theorem Keep.any (a:Keep fp τ τ' n h h'):Keep anyFp τ τ' n h h':=a.mono fun _ _ _ _=>trivial
theorem Keep.of_same (s:Same n [] h h'):Keep fp τ τ n h h':=⟨fun _ _ _ e _=>e,fun b hb e=>⟨e,s b hb (by simp)⟩,fun _ _ x _ hx _ _ _ _=>s x hx (by simp)⟩
theorem TInv.of (I:TInv τ h n) (hn:n≤n') (s:∀ x,x<n→τ x≠.none→h'.get x=h.get x):TInv τ h' n':=fun b k e=>by
 obtain ⟨h1,h2⟩:=I b k e
 exact ⟨by omega,h2.of (s b h1 (by rw [e]; simp)) fun x i ex=>⟨s x (I x _ ex).1 (by rw [ex]; simp),ex⟩⟩
theorem TInv.same (I:TInv τ h n) (s:Same n [] h h') (hn:n≤n'):TInv τ h' n':=I.of hn fun x hx _=>s x hx (by simp)
theorem TInv.weaken (I:TInv τ h n) (hn:n≤n'):TInv τ h n':=I.of hn fun _ _ _=>rfl
theorem TInv.none (I:TInv τ h n) (hb:n≤b):τ b=.none:=by
 cases e:τ b with
 | none=>rfl
 | some k=>have:=(I b k e).1; omega
def upT (τ:Gh) (b:Nat) (k:Ob):Gh:=fun x=>if x=b then some k else τ x
theorem upT_same (τ:Gh) (b:Nat) (k:Ob):upT τ b k b=some k:=if_pos rfl
theorem upT_other {k:Ob} {x:Nat} (hx:x≠b):upT τ b k x=τ x:=if_neg hx
theorem TInv.put {k k':Ob} (I:TInv τ h n) (hn:n≤n') (hb:τ b=some k) (hk:¬ k.isPart) (hk':¬ k'.isPart) (s:∀ x,x<n→x≠b→(∀ i,τ x≠some (.part b i))→h'.get x=h.get x) (w:WT (upT τ b k') h' b k'):TInv (upT τ b k') h' n':=by
 have hbn:=(I b k hb).1
 refine I.go b hn (fun x i e=>hk ⟨x,i,by rw [hb] at e; exact Option.some.inj e⟩) (fun x _ hx=>upT_other hx) s fun x kx e hx=>?_
 by_cases hxb:x=b
 ·subst hxb; rw [upT_same] at e; cases e; exact ⟨by omega,w⟩
 ·rw [upT_other hxb,I.none (by omega)] at e; cases e
theorem Keep.put {k k':Ob} (I:TInv τ h n) (hb:τ b=some k) (hk:¬ k.isPart) (s:∀ x,x<n→x≠b→(∀ i,τ x≠some (.part b i))→h'.get x=h.get x) (hf:fp b k):Keep fp τ (upT τ b k') n h h':=by
 refine ⟨fun x kx hx e hfx=>?_,fun x hx e=>?_,fun y ky x hy hx e hky hfy hp=>?_⟩
 ·by_cases hxb:x=b
  ·subst hxb
   rw [hb] at e; cases e
   rcases hfx with hfx | hfx
   ·exact absurd hf hfx
   ·exact absurd hfx hk
  ·rw [upT_other hxb]; exact e
 ·have hxb:x≠b:=by rintro rfl; rw [hb] at e; cases e
  exact ⟨by rw [upT_other hxb]; exact e,s x hx hxb fun i=>by rw [e]; simp⟩
 ·have hyb:y≠b:=by rintro rfl; rw [hb] at e; cases e; exact hfy hf
  rcases hp with rfl | ⟨i,hp⟩
  ·exact s x hx hyb fun i h=>hky _ _ (by rw [e] at h; exact Option.some.inj h)
  ·exact s x hx (by rintro rfl; rw [hb] at hp; cases hp; exact hk ⟨_,_,rfl⟩) fun j h=>by rw [hp] at h; cases h; exact hyb rfl
theorem TInv.news (I:TInv τ h n) (hn:n≤n') (t:∀ x,x<n→τ' x=τ x) (s:Same n [] h h') (w:∀ x k,τ' x=some k→n≤x→x<n'∧WT τ' h' x k):TInv τ' h' n':=
 I.go n hn (fun x i e=>by rw [I.none (Nat.le_refl _)] at e; cases e) (fun x hx _=>t x hx) (fun x hx _ _=>s x hx (by simp)) fun x k e hx=>w x k e (by omega)
theorem Keep.news (t:∀ x,x<n→τ' x=τ x) (s:Same n [] h h'):Keep fp τ τ' n h h':=
 ⟨fun x k hx e _=>by rw [t x hx]; exact e,fun x hx e=>⟨by rw [t x hx]; exact e,s x hx (by simp)⟩,fun _ _ x _ hx _ _ _ _=>s x hx (by simp)⟩
def Goes (fp:Fp) (τ:Gh) (n:Nat) (h h':Heap) (n':Nat) (P:Gh→Prop):Prop:=∃ τ',TInv τ' h' n'∧Keep fp τ τ' n h h'∧P τ'
theorem Goes.imp {P Q:Gh→Prop} {fq:Fp} (G:Goes fp τ n h h' n' P) (hf:∀ b k,τ b=some k→fp b k→fq b k) (H:∀ t,P t→Q t):Goes fq τ n h h' n' Q:=by
 obtain ⟨t,I,K,p⟩:=G
 exact ⟨t,I,K.mono hf,H t p⟩
end
end Go.Ev
end
section
namespace Go.Ev
open Proofs
set_option maxRecDepth 20000
@[simp] theorem vcl_cpx (k:FloatKind) (a b:Nat):vcl (.s (.complex k a b))=some [.s (.complex k a b)]:=of_eq rfl
theorem write_nn (d:Ieee.Datum) (h:d.isNaN=false):NN (Ieee.double.write d):=by
 have key:∀ (s:Bool) (r:Nat),r≤Ieee.double.infRung→NN (Ieee.double.word s r):=by
  intro s r hr
  have e1:Ieee.double.infRung=9218868437227405312:=by decide
  have e2:Ieee.double.signWeight=9223372036854775808:=by decide
  have e3:Ieee.double.binade=4503599627370496:=by decide
  unfold NN Ieee.Format.read
  have hm:Ieee.double.word s r % Ieee.double.signWeight=r:=by
   rw [e2]; cases s <;> simp only [Ieee.Format.word,e2,if_true,Bool.false_eq_true,if_false] <;> omega
  simp only [hm]
  split
  ·rfl
  ·split
   ·rfl
   ·split
    ·rfl
    ·omega
 cases d with
 | number s m p=>
  simp only [Ieee.Format.write,Ieee.Format.nearest]
  split
  ·exact key s 0 (by decide)
  ·exact key s _ (Nat.min_le_right _ _)
 | infinity s=>exact key s _ (Nat.le_refl _)
 | nan s t=>cases h
theorem add_nn {x y:Nat} (hx:NN x) (hy:FinF y):∃ r,Ieee.double.add x y=some r∧NN r:=by
 obtain ⟨s,m,e,hy⟩:=hy
 unfold NN at hx
 unfold Ieee.Format.add
 cases hd:Ieee.double.read x with
 | nan a b=>rw [hd] at hx; cases hx
 | infinity a=>exact ⟨_,by rw [hy]; rfl,write_nn _ rfl⟩
 | number a b c=>exact ⟨_,by rw [hy]; rfl,write_nn _ rfl⟩
theorem cpx_add (cst:Bool) {a b c d:Nat} (ha:NN a) (hb:NN b) (hc:FinF c) (hd:FinF d) :
  ∃ x y,(∀ t,binop CC .add t cst (.s (.complex .f64 a b)) (.s (.complex .f64 c d))=some (.s (.complex .f64 x y)))∧NN x∧NN y:=by
 obtain ⟨x,hx,nx⟩:=add_nn ha hc
 obtain ⟨y,hy,ny⟩:=add_nn hb hd
 refine ⟨x,y,fun t=>?_,nx,ny⟩
 have e1:FloatKind.format .f64=Ieee.double:=rfl
 have f:∀ u v r,Ieee.double.add u v=some r→Op.Complex.arith .add .f64 u v=Sem.pure r:=by
  intro u v r h
  simp only [Op.Complex.arith,Op.floatArith,e1,h]
  rfl
 have:pure? CC.P (Go.binOp .add t (.complex .f64 a b) (.complex .f64 c d))=some (.complex .f64 x y):=by
  have g:Go.binOp .add t (.complex .f64 a b) (.complex .f64 c d)=Op.complexOp .add .f64 a b c d:=rfl
  rw [g]
  simp only [Op.complexOp,f _ _ _ hx,f _ _ _ hy]
  rfl
 simp [binop,bothNil,flatV,scalarBin,this]
def arrowN:Nat→Nat×Nat
 | 0=>(4607182418800017408,0)
 | 1=>(0,4607182418800017408)
 | 2=>(13830554455654793216,0)
 | _=>(9223372036854775808,13830554455654793216)
theorem arrow_mul (t:TypeId):∀ i,i<3→binop CC .mul t true (.s (.complex .f64 (arrowN i).1 (arrowN i).2)) (.s (.complex .f64 0 4607182418800017408))=some (.s (.complex .f64 (arrowN (i+1)).1 (arrowN (i+1)).2))
 | 0,_=>by kernel_rfl
 | 1,_=>by kernel_rfl
 | 2,_=>by kernel_rfl
 | i+3,h=>by omega
theorem arrow_fin (i:Nat):FinF (arrowN i).1∧FinF (arrowN i).2:=by
 have a:FinF 4607182418800017408:=⟨_,_,_,rfl⟩
 have b:FinF 0:=⟨_,_,_,rfl⟩
 have c:FinF 13830554455654793216:=⟨_,_,_,rfl⟩
 have d:FinF 9223372036854775808:=⟨_,_,_,rfl⟩
 match i with
 | 0=>exact ⟨a,b⟩
 | 1=>exact ⟨b,a⟩
 | 2=>exact ⟨c,b⟩
 | _+3=>exact ⟨d,c⟩
theorem and3 (x:Int):∃ m:Nat,bitsI .and .i64 x 3=(m:Int)∧m≤3:=by
 refine ⟨(BitVec.ofInt 64 x &&& BitVec.ofInt 64 3).toNat,?_,?_⟩
 ·have:(BitVec.ofInt 64 x &&& BitVec.ofInt 64 3).toNat≤3:=by rw [BitVec.toNat_and]; exact Nat.le_trans Nat.and_le_right (by decide)
  show wrapF .i64 ((BitVec.ofInt 64 x &&& BitVec.ofInt 64 3).toNat:Int)=_
  rw [wrapF_i64 (by omega) (by omega)]
 ·rw [BitVec.toNat_and]; exact Nat.le_trans Nat.and_le_right (by decide)
theorem arrow_loop {N:Nat} (hN:N≤3) {Q:X→St→Prop} {h:Heap}
  (hQ:∀ n s,F209_L110100 (.s (.complex .f64 (arrowN N).1 (arrowN N).2)) (.s (.int .i64 (N:Nat))) (.s (.int .i64 (N:Nat))) h n s→Q (.exit 0) s) :
  ∀ m s,(∃ i n,m=N-i∧i≤N∧F209_L110100 (.s (.complex .f64 (arrowN i).1 (arrowN i).2)) (.s (.int .i64 (N:Nat))) (.s (.int .i64 (i:Nat))) h n s) →
   LoopK CC none (subC [1,1,0,1,0,0] (bodyOf Tryz.f209)) s Q:=by
 refine loopH CCok _ ?_
 rintro m s ⟨i,n,hm,hi,hs⟩ hlt
 obtain ⟨g,rfl⟩:=hs
 rw [F209_b110100]
 by_cases hi':i<N
 ·have e3:wrapF .i64 ((i:Int)+1)=((i+1:Nat):Int):=by rw [wrapF_i64 (by omega) (by omega)]; rfl
  simp [hi',arrow_mul _ i (by omega)]
  exact ⟨N-(i+1),h,by omega,fun hok b o hb=>⟨o,hb,hok b o hb⟩,i+1,rfl,by omega,n,by rw [e3]; exact F209_L110100_of⟩
 ·have:i=N:=by omega
  subst this
  simp [roundQ]
  exact hQ n _ F209_L110100_of
theorem arrow_ok (now:Int) (h:Heap) (n:Nat):CallK CC 209 [.s (.int .i64 now)] h n fun v h' n'=>(∃ a b,v=.s (.complex .f64 a b)∧FinF a∧FinF b)∧h'=h:=by
 refine F209_call fun hlt=>?_
 rw [F209_eq]
 obtain ⟨N,e,hN⟩:=and3 now
 simp only [bin_and,oK_some,e]
 refine arrow_loop hN ?_ _ _ ⟨0,n,rfl,by omega,F209_L110100_of⟩
 intro n' s hs
 obtain ⟨g,rfl⟩:=hs
 rw [F209_r110100_0]
 exact ⟨⟨_,_,rfl,(arrow_fin N).1,(arrow_fin N).2⟩,rfl⟩
theorem beat_ok {a b:Nat} (ha:NN a) (hb:NN b) (w la now:Int) (h:Heap) (n:Nat) :
  CallK CC 163 [.agg (.lst [.s (.complex .f64 a b),.s (.int .i64 w),.s (.int .i64 la)]),.s (.int .i64 now)] h n fun v h' n'=>
   (∃ a' b' w',v=.agg (.lst [.s (.complex .f64 a' b'),.s (.int .i64 w'),.s (.int .i64 now)])∧NN a'∧NN b')∧Same n [] h h':=by
 refine F163_call fun hlt=>?_
 rw [F163_eq]
 simp [cellsAt,Tree.get_set]
 refine CallK.monoN ?_ (arrow_ok now _ _)
 rintro v h1 n1 ⟨⟨c,d,rfl,hc,hd⟩,rfl⟩ hn1
 obtain ⟨x,y,e,nx,ny⟩:=cpx_add false ha hb hc hd
 simp [e,Tree.get_set,storeCells,cellsOwn,Rope.put,ble_dec]
 refine ⟨⟨x,y,⟨rfl,rfl⟩,nx,ny⟩,?_⟩
 intro b hb _
 simp only [Tree.get_set]
 rw [if_neg (by omega),if_neg (by omega),if_neg (by omega)]
theorem newBeat_ok (h : Heap) (n : Nat) : CallK CC 190 [] h n fun v h' n' =>
      v = .agg (.lst [.s (.complex .f64 0 0), .s (.int .i64 0), .s (.int .i64 0)]) ∧ Same n [] h h' := by
  refine F190_call fun hlt => ?_
  rw [F190_eq]
  simp [cellsAt, Tree.get_set, storeCells, cellsOwn, Rope.put, ble_dec]
  intro b hb _
  simp only [Tree.get_set]
  rw [if_neg (by omega), if_neg (by omega)]
end Go.Ev
end
section
namespace Go.Ev
open Proofs
set_option maxRecDepth 20000
theorem cloneN_ok {b:Nat} {sl:V} {l:List Int} {h:Heap} {n:Nat} (hb:b<n) (hs:BytesAt h b sl l) (h1:1≤l.length) (hl:l.length≤140737488355000) :
  CallK CC 74 [sl] h n fun v h' n'=>∃ a,v=.slice a 0 l.length l.length true∧n≤a∧a<n'∧h'.get a=some (.cells (.lst (bytesV' l)) 1)∧Same n [] h h':=by
 refine F74_call fun hlt=>?_
 rw [F74_eq]
 rcases hs with ⟨rfl,h2,h3⟩ | ⟨o,c,op,A,es,rfl,h2,h3,h4⟩
 ·omega
 ·have hs:BytesAt (h.set n (.cells (.lst []) 1)) b (.slice b o l.length c op) l:=SliceAt.of (.inr ⟨o,c,op,A,es,rfl,h2,h3,h4⟩) (by rw [Tree.get_set,if_neg (by omega)])
  simp
  refine append_new (cs:=bytesV' l) (old:=[]) (by omega) hs.row (.row (A:=[]) (es:=1) (by simp [cellsAt,Tree.get_set]) rfl rfl) (by omega) (by omega) fun h' h5 h6=>?_
  refine ⟨n+1,by simp,by omega,by omega,by simpa using h5,fun b' hb' _=>by rw [h6 b' (by omega),Tree.get_set,if_neg (by omega)]⟩
theorem bytes_at {l:List Int} {i:Nat} (hi:i<l.length):(bytesV' l)[i]? = some (.s (.int .u8 l[i])):=by
 simp [bytesV',hi]
def CapOk (v:V):Prop:=∀ b o l c p,v=.slice b o l c p→l≤c
theorem splice_get {A new:List V} {o i:Nat} (h:o+new.length≤A.length):(splice A o new)[i]? = if o≤i∧i<o+new.length then new[i-o]? else A[i]?:=by
 unfold splice
 by_cases h1:i<o
 ·rw [List.getElem?_append_left (by simp; omega),List.getElem?_append_left (by simp; omega),List.getElem?_take_of_lt h1,if_neg (by omega)]
 ·by_cases h2:i<o+new.length
  ·rw [List.getElem?_append_left (by simp; omega),List.getElem?_append_right (by simp; omega),if_pos (by omega)]
   congr 1; simp; omega
  ·rw [List.getElem?_append_right (by simp; omega),if_neg (by omega),List.getElem?_drop]
   congr 1; simp; omega
theorem splice_len {A new:List V} {o:Nat} (h:o+new.length≤A.length):(splice A o new).length=A.length:=by
 unfold splice; simp; omega
theorem splice_map {α β:Type} (f:α→β) (l m:List α) (o:Nat):(splice l o m).map f=splice (l.map f) o (m.map f):=by simp [splice]
theorem splice_at {α:Type} {A new:List α} {o i:Nat} (h:o+new.length≤A.length):(splice A o new)[i]? = if o≤i∧i<o+new.length then new[i-o]? else A[i]?:=by
 unfold splice
 by_cases h1:i<o
 ·rw [List.getElem?_append_left (by simp; omega),List.getElem?_append_left (by simp; omega),List.getElem?_take_of_lt h1,if_neg (by omega)]
 ·by_cases h2:i<o+new.length
  ·rw [List.getElem?_append_left (by simp; omega),List.getElem?_append_right (by simp; omega),if_pos (by omega)]
   congr 1; simp; omega
  ·rw [List.getElem?_append_right (by simp; omega),if_neg (by omega),List.getElem?_drop]
   congr 1; simp; omega
theorem take_spliceI {A new:List V} {o j len:Nat} (hj:j+new.length≤len) (ho:o+len≤A.length):((splice A (o+j) new).drop o).take len=splice ((A.drop o).take len) j new:=by
 apply List.ext_getElem?
 intro i
 have hl:((A.drop o).take len).length=len:=by simp; omega
 rw [splice_at (by rw [hl]; exact hj)]
 by_cases hi:i<len
 ·rw [List.getElem?_take_of_lt hi,List.getElem?_drop,splice_at (by omega),List.getElem?_take_of_lt hi,List.getElem?_drop]
  by_cases hc:j≤i∧i<j+new.length
  ·rw [if_pos hc,if_pos (by omega)]; congr 1; omega
  ·rw [if_neg hc,if_neg (by omega)]
 ·rw [if_neg (by omega),List.getElem?_take_eq_none (by omega),List.getElem?_take_eq_none (by omega)]
theorem NumsS.put {τ':Gh} {h':Heap} {b i d o c j:Nat} {op:Bool} {k:IntKind} {A:List V} {es:Nat} {l m:List Int} (hd:τ' d=some (.part b i)) (hA:(A.drop o).take l.length=kV k l) (hc:l.length≤c) (ho:o+l.length≤A.length) (hj:j+m.length≤l.length)
  (hg:h'.get d=some (.cells (.lst (splice A (o+j) (kV k m))) es)):NumsS τ' h' b i k (.slice d o l.length c op) (splice l j m):=by
 have e:(splice l j m).length=l.length:=splice_length hj
 refine ⟨d,o,c,op,_,es,by rw [e],hd,hg,?_,by rw [e]; exact hc,by rw [e,splice_length (by simp; omega)]; exact ho⟩
 rw [e,take_spliceI (by simpa using hj) ho,hA,kV,kV,← splice_map,kV]
theorem splice_full {α:Type} {l m:List α} (h:m.length=l.length):splice l 0 m=m:=by simp [splice,h]
theorem Byt.splice {l m:List Int} {j:Nat} (a:Byt l) (b:Byt m):Byt (splice l j m):=fun x hx=>by
 unfold Go.Ev.splice at hx
 rcases List.mem_append.1 hx with hx | hx
 ·rcases List.mem_append.1 hx with hx | hx
  ·exact a x (List.mem_of_mem_take hx)
  ·exact b x hx
 ·exact a x (List.mem_of_mem_drop hx)
theorem NumsS.bytes {τ:Gh} {h:Heap} {b i:Nat} {v:V} {l:List Int} (H:NumsS τ h b i .u8 v l):∃ d,τ d=some (.part b i)∧BytesAt h d v l:=by
 obtain ⟨d,o,c,op,A,es,h1,h2,h3,h4,h5,h6⟩:=H
 exact ⟨d,h2,.inr ⟨o,c,op,A,es,h1,by simp [cellsAt,h3],by simpa [kV_u8] using h4,by simp⟩⟩
end Go.Ev
end
