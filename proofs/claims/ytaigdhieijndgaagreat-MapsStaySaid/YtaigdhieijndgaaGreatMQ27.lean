import Derived.Test.YtaigdhieijndgaaGreatMQ26
section
namespace Go.Ev
open Proofs
set_option maxRecDepth 20000
def hashy (o:OneM):Prop:=o.d.kind=2∨o.d.kind=3
theorem opt_ext {α:Type} {a b:Option α} (h:∀ x,a=some x↔b=some x):a=b:=by
 cases a with
 | none=>cases b with
  | none=>rfl
  | some y=>exact absurd ((h y).2 rfl) (by simp)
 | some x=>exact ((h x).1 rfl).symm
theorem find_del {o:OneM} (hR:RepO o) {k k':List Int} (hk:k'≠k):findO (delO o k) k'=findO o k':=by
 unfold RepO at hR
 unfold findO delO
 cases hb:o.by_ with
 | progs l=>simp only [hb]
 | arr ids=>simp only [hb]
 | hash R=>
  rw [hb] at hR
  simp only
  split
  ·exact opt_ext fun x=>by rw [(del_inv hR k).2 k' x]; exact ⟨fun h=>h.2,fun h=>⟨hk,h⟩⟩
  ·rfl
 | lru key most rows=>
  rw [hb] at hR
  simp only
  split
  ·exact opt_ext fun x=>by
    have:=(delL_inv hR.1 k).2 k' x
    unfold lruGet at this
    rw [this]; exact ⟨fun h=>h.2,fun h=>⟨hk,h⟩⟩
  ·rfl
def Clean (M:MM):Prop:=∀ x l,M.C x≠some (l,true)
theorem drop_true {C:CM} {x:Int}:dropB C x=true↔∃ l,C x=some (l,true):=by
 unfold dropB
 cases h:C x with
 | none=>simp
 | some q=>cases q with | mk l d=>simp
theorem gone_mem {C:CM} {k:Nat} {x:Int}:x∈goneF C k↔(1≤x∧x≤(k:Nat))∧dropB C x=true:=by
 unfold goneF
 simp only [List.mem_filter,List.mem_map,List.mem_range]
 constructor
 ·rintro ⟨⟨i,hi,rfl⟩,h⟩; exact ⟨by omega,h⟩
 ·rintro ⟨h1,h2⟩; exact ⟨⟨(x-1).toNat,by omega,by omega⟩,h2⟩
theorem clean_sweep {M:MM} (G:GoodM M):Clean (sweepF M):=by
 intro x l h
 have h:delF M.C (goneF M.C M.last.toNat) x=some (l,true):=h
 unfold delF at h
 split at h
 ·cases h
 ·rename_i hn
  have hd:=G.dom x (by rw [h]; simp)
  exact hn (gone_mem.2 ⟨by have:=G.la0; omega,drop_true.2 ⟨l,h⟩⟩)
theorem gone_one {C:CM} {x:Int} (hx:∀ y,dropB C y=true↔y=x):∀ k:Nat,(goneF C k).length=if 1≤x∧x≤(k:Nat) then 1 else 0
 | 0=>by rw [if_neg (by omega)]; rfl
 | k+1=>by
  rw [goneF_succ,List.length_append,gone_one hx k]
  by_cases h:dropB C ((k+1:Nat):Int)=true
  ·have e:=(hx _).1 h
   rw [if_pos h,if_neg (show ¬ (1≤x∧x≤(k:Nat)) by omega),if_pos (show 1≤x∧x≤((k+1:Nat):Int) by omega)]; rfl
  ·have e:((k+1:Nat):Int)≠x:=fun e=>h ((hx _).2 e)
   rw [if_neg h]
   by_cases c:1≤x∧x≤(k:Nat)
   ·rw [if_pos c,if_pos (show 1≤x∧x≤((k+1:Nat):Int) by omega)]; rfl
   ·rw [if_neg c,if_neg (show ¬ (1≤x∧x≤((k+1:Nat):Int)) by omega)]; rfl
structure Gone (M:MM) (id:Int) (o:OneM) (k:List Int) (x:Int) (l:List Int):Prop where
 G:GoodM M
 cl:Clean M
 at_:M.at id=some o
 ky:hashy o
 fnd:findO o k=some x
 cx:M.C x=some (l,false)
 l1:1≤l.length
theorem Gone.del {M:MM} {id:Int} {o:OneM} {k l:List Int} {x:Int} (g:Gone M id o k x l):deleteF M id k=(((M.setO id (delO o k)).drop x).note ⟨1,id,0,0,k⟩,0):=by
 have hl:=find_len g.fnd
 have hF:=((g.G.fine o (List.mem_of_getElem? (MM.at_some g.at_).2)).1).by_
 have hk:=g.ky
 unfold hashy at hk
 unfold deleteF
 rw [g.at_]
 cases hb:o.by_ with
 | progs l=>rw [hb] at hF; omega
 | arr ids=>rw [hb] at hF; omega
 | hash R=>simp only [hb]; rw [if_pos hl,g.fnd]
 | lru key most rows=>simp only [hb]; rw [if_pos hl,g.fnd]
def M1 (M:MM) (id:Int) (o:OneM) (k:List Int) (x:Int):MM:=((M.setO id (delO o k)).drop x).note ⟨1,id,0,0,k⟩
def M2 (M:MM) (id:Int) (o:OneM) (k:List Int) (x v:Int):MM:=({ M1 M id o k x with C:=storeF (M1 M id o k x).C x 0 1 v }:MM).note ⟨2,0,0,x,[]⟩
theorem Gone.c1 {M:MM} {id:Int} {o:OneM} {k l:List Int} {x:Int} (g:Gone M id o k x l):(M1 M id o k x).C=updG M.C x (some (l,true)):=by
 show dropF M.C x=_
 unfold dropF; rw [g.cx]
theorem Gone.inC {M:MM} {id:Int} {o:OneM} {k l:List Int} {x:Int} (g:Gone M id o k x l):InC (M1 M id o k x).C x 0 1:=by
 refine ⟨l,true,by rw [g.c1,updG_same],.inl rfl,by omega,by have:=g.l1; omega⟩
theorem Gone.c2 {M:MM} {id:Int} {o:OneM} {k l:List Int} {x:Int} (g:Gone M id o k x l) (v:Int):(M2 M id o k x v).C=updG (updG M.C x (some (l,true))) x (some (splice l 0 (bytesOf v 1),true)):=by
 show storeF (M1 M id o k x).C x 0 1 v=_
 unfold storeF; rw [g.c1,updG_same]; rfl
theorem Gone.one {M:MM} {id:Int} {o:OneM} {k l:List Int} {x:Int} (g:Gone M id o k x l) (v:Int):∀ y,dropB (M2 M id o k x v).C y=true↔y=x:=by
 intro y
 rw [g.c2]
 by_cases h:y=x
 ·subst h; simp [dropB,updG_same]
 ·refine ⟨fun e=>?_,fun e=>absurd e h⟩
  obtain ⟨l',hl'⟩:=drop_true.1 e
  rw [updG_other h,updG_other h] at hl'
  exact absurd hl' (g.cl y l')
theorem Gone.swept {M:MM} {id:Int} {o:OneM} {k l:List Int} {x:Int} (g:Gone M id o k x l) (v:Int):(goneF (M2 M id o k x v).C (M2 M id o k x v).last.toNat).length=1:=by
 have hd:=g.G.dom x (by rw [g.cx]; simp)
 rw [gone_one (g.one v),if_pos ⟨hd.1,by show x≤(M.last.toNat:Nat); omega⟩]
theorem Gone.good {M:MM} {id:Int} {o:OneM} {k l:List Int} {x:Int} (g:Gone M id o k x l) (v:Int):GoodM (M1 M id o k x)∧GoodM (M2 M id o k x v)∧GoodM (sweepF (M2 M id o k x v)):=by
 have hF:=((g.G.fine o (List.mem_of_getElem? (MM.at_some g.at_).2)).1).by_
 have hk:=g.ky
 unfold hashy at hk
 have h1:GoodM (M1 M id o k x):=(good_del g.G g.at_ g.fnd fun ids hb=>by rw [hb] at hF; omega).1.note _
 have h2:GoodM (M2 M id o k x v):=(good_store h1 g.inC v).note _
 exact ⟨h1,h2,good_sweep h2⟩
theorem Gone.at3 {M:MM} {id:Int} {o:OneM} {k l:List Int} {x:Int} (g:Gone M id o k x l) (v:Int):(sweepF (M2 M id o k x v)).at id=some (delO o k):=by
 obtain ⟨h1,h2⟩:=MM.at_some g.at_
 unfold MM.at
 show (if 1≤id∧id≤((M.ones.set (idxOf id) (delO o k)).length:Nat) then (M.ones.set (idxOf id) (delO o k))[(id-1).toNat]? else none)=_
 rw [if_pos (by simpa using h1)]
 rw [show (id-1).toNat=idxOf id from rfl,List.getElem?_set_self (by unfold idxOf; omega)]
theorem Gone.c3 {M:MM} {id:Int} {o:OneM} {k l:List Int} {x:Int} (g:Gone M id o k x l) (v:Int):(sweepF (M2 M id o k x v)).C=updG M.C x none:=by
 have hd:=g.G.dom x (by rw [g.cx]; simp)
 funext y
 show delF (M2 M id o k x v).C (goneF (M2 M id o k x v).C (M2 M id o k x v).last.toNat) y=_
 unfold delF
 by_cases h:y=x
 ·subst h
  rw [if_pos (gone_mem.2 ⟨⟨hd.1,by show y≤(M.last.toNat:Nat); omega⟩,(g.one v y).2 rfl⟩),updG_same]
 ·rw [if_neg fun e=>h ((g.one v y).1 (gone_mem.1 e).2),g.c2,updG_other h,updG_other h,updG_other h]
theorem delO_d (o:OneM) (k:List Int):(delO o k).d=o.d:=by unfold delO; cases o.by_ <;> rfl
theorem Gone.other {M:MM} {id:Int} {o:OneM} {k l:List Int} {x:Int} (g:Gone M id o k x l) (v:Int) {k':List Int} {y:Int} (hk:k'≠k) (hy:findO o k'=some y):findO (delO o k) k'=some y∧bytesF (sweepF (M2 M id o k x v)).C y=bytesF M.C y:=by
 have hix:=(MM.at_some g.at_).2
 have hm:=List.mem_of_getElem? hix
 have hne:y≠x:=by
  rintro rfl
  have:=(g.G.inj _ _ o o _ _ y hix hix (find_slot hy) (find_slot g.fnd)).2
  have hF:=(g.G.fine o hm).1.by_
  have hky:=g.ky
  unfold hashy at hky
  unfold slotO at this
  cases hb:o.by_ with
  | progs l=>rw [hb] at hF; omega
  | arr ids=>rw [hb] at hF; omega
  | hash R=>rw [hb] at this; exact hk (by cases this; rfl)
  | lru key most rows=>rw [hb] at this; exact hk (by cases this; rfl)
 refine ⟨by rw [find_del (g.G.fine o hm).2 hk]; exact hy,?_⟩
 rw [g.c3]
 unfold bytesF
 rw [updG_other hne]
theorem load_byte {l:List Int} (hl:1≤l.length) {v:Int} (h0:0≤v) (h1:v<18446744073709551616):loadF (((splice l 0 (bytesOf v 1)).drop 0).take 1) 0 0=v.tmod 256:=by
 have e1:bytesOf v 1=[v % 256]:=by
  show [wrapF .u8 (shrI .u64 v ((8*0:Nat):Int))]=_
  have:shrI .u64 v ((8*0:Nat):Int)=v:=by
   show v.fdiv (2 ^ (min (0:Nat) 64))=v
   simp
  rw [this]
  rfl
 have e2:((splice l 0 [v % 256]).drop 0).take 1=[v % 256]:=by simp [splice]
 rw [e1,e2]
 have hm0:0≤v % 256:=Int.emod_nonneg _ (by decide)
 have hm1:v % 256<256:=Int.emod_lt_of_pos _ (by decide)
 obtain ⟨b,hb⟩:∃ b:Nat,(b:Int)=v % 256:=⟨(v % 256).toNat,by omega⟩
 rw [show v.tmod 256=v % 256 from Int.tmod_eq_emod_of_nonneg h0,← hb]
 show bitsI .or .u64 0 (shlI .u64 (wrapF .u64 (b:Int)) 0)=(b:Int)
 have e3:wrapF .u64 (b:Int)=(b:Int):=wrapF_u64 (by omega) (by omega)
 have e4:shlI .u64 (b:Int) 0=(b:Int):=by
  show wrapF .u64 ((b:Int)*2 ^ (min 0 64))=_
  rw [show (2:Int) ^ (min 0 64)=1 from rfl,Int.mul_one,e3]
 rw [e3,e4]
 have:=bitsI_or (k:=.u64) rfl (a:=0) (b:=b) (by decide) (show b<p2 .u64 by show b<2 ^ 64; omega)
 rw [show ((0:Nat):Int)=0 from rfl,Nat.zero_or] at this
 exact this
end Go.Ev
end
section
namespace Go.Ev
open Proofs
set_option maxRecDepth 20000
attribute [local simp ↓] oK_S cond_S callK_S loopK_S
attribute [local simp] oKS_some condS_t condS_f
theorem stay_rows {τ:Gh} {m c n0 nA nR:Nat} {L:List Nat} {M:MM} {h0:Heap} {o:OneM} {t1 t7 rv:V} {id:Int} {rs:List (List Int×List Int)}
  (I:TInv τ h0 n0) (H:MapsX τ m c L M) (hid:M.at id=some o) (h64:rs.length≤64) (hR:RowsB nA nR n0 h0 rv rs)
  (hrs:∀ j (hj:j<rs.length),1≤j→(∃ x,findO o rs[j].1=some x∧bytesF M.C x=rs[j].2)∧Byt rs[j].1∧rs[j].1.length≤16∧rs[j].2.length≤64) {Q:X→St→Prop}
  (hQ:∀ t15 h n s,F4_L11111101001001111111100 t1 (.ptr m 0) t7 (.s (.int .i64 id)) rv t15 h n s→n0≤n→Same n0 [] h0 h→Q (.exit 4) s) :
  ∀ k s,(∃ (j:Nat) (h:Heap) (n:Nat),k=rs.length+1-j∧1≤j∧F4_L11111101001001111111100 t1 (.ptr m 0) t7 (.s (.int .i64 id)) rv (.s (.int .i64 (j:Nat))) h n s∧n0≤n∧Same n0 [] h0 h) →
   LoopK CC none (subC [1,1,1,1,1,1,0,1,0,0,1,0,0,1,1,1,1,1,1,1,1,0,0] (bodyOf Tryz.f4)) s Q:=by
 refine loopH CCok _ ?_
 rintro k s ⟨j,h,n,hk,hj,hs,hn,hsame⟩ hlt
 obtain ⟨g',rfl⟩:=hs
 rw [F4_b11111101001001111111100]
 have hlenV:=hR.len
 by_cases hj':j<rs.length
 ·have e4:wrapF .i64 ((j:Int)+1)=((j+1:Nat):Int):=by rw [wrapF_i64 (by omega) (by omega)]; rfl
  obtain ⟨a,oo,A,x,y,b,d,hix,hg,hx,hy,hb,hd,an,bn,dn,nx,ny⟩:=hR.row hj'
  obtain ⟨⟨x9,hf9,hv9⟩,kB,k16,v64⟩:=hrs j hj' hj
  have hg1:=(hsame a an (by simp)).trans hg
  have hb1:=hb.of (hsame b bn (by simp))
  simp [hlenV,hj',hix,cellsAt,hg1,hx,nx]
  refine CallK.monoN ?_ (mPeek_ok (kb:=b) (I.same hsame hn) H id (by omega) hb1 kB (by omega))
  rintro _ h2 n2 ⟨rfl,hs2⟩ hn2
  have hs02:Same n0 [] h0 h2:=fun x hx hf=>by rw [hs2 x (by omega) (by simp),hsame x hx hf]
  have hg2:=(hs02 a an (by simp)).trans hg
  simp [hid,hf9,pairV,hix,cellsAt,hg2,hy,ny]
  refine CallK.monoN ?_ (mBytes_ok (I.same hs02 (by omega)) H x9)
  rintro bv h3 n3 ⟨hB3,hs3⟩ hn3
  obtain ⟨a3,hB,ha3⟩:=hB3.at n3
  have hs03:Same n0 [] h0 h3:=fun x hx hf=>by rw [hs3 x (by omega) (by simp),hs02 x hx hf]
  have hg3:=(hs03 a an (by simp)).trans hg
  have hd3:=hd.of (hs03 d dn (by simp))
  rw [hv9] at hB
  simp [cellsAt,hg3,hy,ny]
  refine CallK.monoN ?_ (sameB_ok (.inl hB) (.inl hd3) (by omega))
  rintro _ h5 n5 ⟨rfl,e⟩ hn5
  obtain rfl:h3=h5:=e.symm
  simp
  simp only [roundQ]
  exact ⟨rs.length+1-(j+1),h3,by omega,fun hok b o hb=>⟨o,hb,hok b o hb⟩,j+1,rfl,by omega,h3,_,by rw [e4]; exact F4_L11111101001001111111100_of,by omega,hs03⟩
 ·simp [hlenV,hj']
  exact hQ _ h n _ F4_L11111101001001111111100_of hn hsame
end Go.Ev
end
section
namespace Go.Ev
open Proofs
set_option maxRecDepth 20000
attribute [local simp ↓] oK_S cond_S callK_S loopK_S
attribute [local simp] oKS_some condS_t condS_f
structure Rest (F:Nat→Prop) (hB:Heap) (m c:Nat) (L:List Nat) (h:Heap) (n:Nat) (τ:Gh) (M:MM):Prop where
 I:TInv τ h n
 H:MapsX τ m c L M
 fz:∀ x,F x→x<n∧τ x=none∧h.get x=hB.get x
theorem Rest.same {F:Nat→Prop} {hB h h':Heap} {m c n n':Nat} {L:List Nat} {τ:Gh} {M:MM} (s:Rest F hB m c L h n τ M) (e:Same n [] h h') (hn:n≤n'):Rest F hB m c L h' n' τ M:=
 ⟨s.I.same e hn,s.H,fun x hx=>by obtain ⟨a,b,c⟩:=s.fz x hx; exact ⟨by omega,b,by rw [e x a (by simp)]; exact c⟩⟩
theorem Rest.go {F:Nat→Prop} {hB h h':Heap} {m c n n':Nat} {L:List Nat} {τ τ':Gh} {M M':MM} (s:Rest F hB m c L h n τ M) (I':TInv τ' h' n') (K:Keep anyFp τ τ' n h h') (hn:n≤n') (H':MapsX τ' m c L M'):Rest F hB m c L h' n' τ' M':=
 ⟨I',H',fun x hx=>by
  obtain ⟨a,b,c⟩:=s.fz x hx
  have k:=K.non x a b
  exact ⟨by omega,k.1,by rw [k.2]; exact c⟩⟩
theorem Rest.more {F:Nat→Prop} {hB h h':Heap} {m c n n':Nat} {L:List Nat} {τ:Gh} {M:MM} (s:Rest F hB m c L h n τ M) (e:Same n [] h h') (hn:n≤n'):Rest (fun x=>F x∨(n≤x∧x<n')) h' m c L h' n' τ M:=
 ⟨s.I.same e hn,s.H,fun x hx=>by
  rcases hx with hx | hx
  ·exact ⟨by have:=(s.fz x hx).1; omega,(s.fz x hx).2.1,rfl⟩
  ·exact ⟨hx.2,s.I.none hx.1,rfl⟩⟩
theorem Rest.less {F:Nat→Prop} {hB h0 h h':Heap} {m c n0 n1 n n':Nat} {L L0:List Nat} {τ0 τ:Gh} {M0 M:MM} (s0:Rest F hB m c L0 h0 n0 τ0 M0) (e:Same n0 [] h0 h') (s:Rest (fun x=>F x∨(n1≤x∧x<n')) h' m c L h n τ M):Rest F hB m c L h n τ M:=
 ⟨s.I,s.H,fun x hx=>by
  obtain ⟨a,b,c⟩:=s.fz x (.inl hx)
  exact ⟨a,b,by rw [c,e x (s0.fz x hx).1 (by simp)]; exact (s0.fz x hx).2.2⟩⟩
theorem RowsB.fz {nA nR n n':Nat} {h h':Heap} {v:V} {rs:List (List Int×List Int)} (H:RowsB nA nR n h v rs) (hR:nA≤nR) (hf:∀ x,nA≤x→x<n→h'.get x=h.get x) (hn:n≤n'):RowsB nA nR n' h' v rs:=by
 obtain ⟨a,cs,hG,ha,hor,hl,hr⟩:=H
 refine ⟨a,cs,?_,ha,hor.imp (fun h=>by omega) id,hl,fun i r hi=>?_⟩
 ·rcases hG with q | ⟨o1,k1,op1,A1,p1,p2,p3,p4⟩
  ·exact .inl q
  ·refine .inr ⟨o1,k1,op1,A1,p1,p2,?_,p4⟩
   rcases hor with h | h
   ·rw [hf a (by omega) h]; exact p3
   ·rw [p1] at h; cases h
 ·obtain ⟨w,x,b,d,q1,q2,q3,q4,q5,q6,q7,q8,q9,q10⟩:=hr i r hi
  exact ⟨w,x,b,d,q1,q2,q3.of (hf b q5 q6),q4.of (hf d q8 q9),q5,by omega,q7,q8,by omega,q10⟩
theorem DeclsB.fz {n0 n:Nat} {h h':Heap} {v:V} {ds:List OneM} (H:DeclsB n0 n h v ds) (hf:∀ x,n0≤x→x<n→h'.get x=h.get x):DeclsB n0 n h' v ds:=by
 obtain ⟨a,hG,ha,hor⟩:=H
 refine ⟨a,?_,ha,hor⟩
 rcases hG with q | ⟨o1,k1,op1,A1,p1,p2,p3,p4⟩
 ·exact .inl q
 ·refine .inr ⟨o1,k1,op1,A1,p1,p2,?_,p4⟩
  rcases hor with h | h
  ·rw [hf a ha h]; exact p3
  ·rw [p1] at h; cases h
theorem RowsB.row2 {n0 nR n:Nat} {h:Heap} {v:V} {rs:List (List Int×List Int)} (H:RowsB n0 nR n h v rs) (hR:n0≤nR) {j:Nat} (hj:j<rs.length) :
  ∃ a o A x y b d,indexAddr CC 40 v (.s (.int .i64 (j:Nat)))=some (.ptr a (o+j*2))∧h.get a=some (.cells (.lst A) 2)∧A[o+j*2]? = some x∧A[o+j*2+1]? = some y∧BytesAt h b x rs[j].1∧BytesAt h d y rs[j].2∧(n0≤a∧a<n)∧(n0≤b∧b<n)∧(n0≤d∧d<n)∧normV x=x∧normV y=y:=by
 obtain ⟨a,cs,hG,ha,hor,hl,hr⟩:=H
 obtain ⟨w,x,b,d,hw,hx,hb,hd,b0,bn,_,d0,dn,_⟩:=hr j _ (List.getElem?_eq_getElem hj)
 rcases hG with ⟨_,h0,_⟩ | ⟨o,c,op,A,rfl,hc,hg,hA,_,hcs⟩
 ·omega
 have an:a<n:=by rcases hor with h | h; exact h; cases h
 have at_:∀ k x,cs[k]? = some x→A[o+k]? = some x:=fun k x hk=>by
  rw [← hcs] at hk
  have hkl:k<rs.length*2:=by
   have:=(List.getElem?_eq_some_iff.1 hk).1
   simp at this; omega
  rwa [List.getElem?_take_of_lt hkl,List.getElem?_drop] at hk
 refine ⟨a,o,A,w,x,b,d,by simp [show Nat.blt j rs.length=true from by rw [Nat.blt_eq]; exact hj],hg,?_,?_,hb,hd,⟨by omega,an⟩,⟨b0,bn⟩,⟨d0,dn⟩,(norm_bytesAt hb).1,(norm_bytesAt hd).1⟩
 ·rw [Nat.mul_comm]; exact at_ _ _ hw
 ·rw [Nat.mul_comm,Nat.add_assoc]; exact at_ _ _ hx
theorem rows_at {M:MM} (G:GoodM M) {id:Int} {o:OneM} (hat:M.at id=some o) (hk:hashy o) {j:Nat} (hj:j<(rowsF M id).length) :
  (∃ x l,findO o (rowsF M id)[j].1=some x∧M.C x=some (l,false)∧(rowsF M id)[j].2=l∧1≤l.length∧l.length≤64)∧Byt (rowsF M id)[j].1∧(rowsF M id)[j].1.length≤16∧(∀ h:0<(rowsF M id).length,1≤j→(rowsF M id)[j].1≠(rowsF M id)[0].1)∧(rowsF M id).length≤64:=by
 have hm:=List.mem_of_getElem? (MM.at_some hat).2
 have hF:=(G.fine o hm).1
 have hR:=(G.fine o hm).2
 have K:=keys_good hF hR
 have hlen:(rowsF M id).length=(keysO o).length:=by unfold rowsF; rw [hat]; simp
 have ek:∀ i (h:i<(keysO o).length),(keysO o).getD i []=(keysO o)[i]:=fun i h=>by rw [List.getD_eq_getElem?_getD,List.getElem?_eq_getElem h]; rfl
 have er:∀ i (h:i<(rowsF M id).length) (h':i<(keysO o).length),(rowsF M id)[i]=((keysO o)[i],valO M o i (keysO o)[i]):=fun i h h'=>by
  simp only [rowsF,hat,rowsO,List.getElem_map,List.getElem_range,ek i h']
 have hj2:j<(keysO o).length:=by omega
 have hby:=hF.by_
 unfold hashy at hk
 have hnp:∀ l,o.by_≠.progs l:=fun l hl=>by rw [hl] at hby; omega
 obtain ⟨x,hx,hv⟩:=valO_at (M:=M) K j hj2 hnp
 rw [ek j hj2] at hx hv
 obtain ⟨l,h1,_,h3,h4⟩:=good_found G hat hx
 have hty:=K.tells.by_ (keysO o)[j] (List.getElem_mem _)
 have nd:(keysO o).Nodup:=by
  unfold RepO at hR
  unfold keysO
  cases hbm:o.by_ with
  | progs l=>exact absurd hbm (hnp l)
  | arr ids=>rw [hbm] at hby; omega
  | hash R=>rw [hbm] at hR; exact (sortK_perm _).nodup_iff.2 (keysH_nodup hR)
  | lru key most rows=>rw [hbm] at hR; exact (sortK_perm _).nodup_iff.2 hR.1.nd
 refine ⟨⟨x,l,?_,h1,?_,h3,h4⟩,?_,?_,fun h h0=>?_,by rw [hlen]; exact K.tells.1⟩
 ·rw [er j hj hj2]; exact hx
 ·rw [er j hj hj2,← bytesF_at h1]; exact hv
 ·rw [er j hj hj2]; exact hty.1
 ·rw [er j hj hj2]; exact hty.2
 ·rw [er j hj hj2,er 0 h (by omega)]
  intro e
  have:=(List.getElem?_inj hj2 nd (j:=0)).1 (by rw [List.getElem?_eq_getElem hj2,List.getElem?_eq_getElem (show 0<(keysO o).length by omega)]; exact congrArg some e)
  omega
def StayI (hp:Heap) (n0 N m c:Nat) (mv wv:V) (k:Nat) (s:St):Prop:=∃ (i:Nat) (h:Heap) (n:Nat) (τ:Gh) (L:List Nat) (M:MM),k=N-i∧i≤N∧F4_L1110100 mv wv (.ptr m 0) (.s (.int .i64 (i:Nat))) h n s∧Goer hp n0 m c i h n τ L M
theorem StayI.of {hp:Heap} {n0 N m c:Nat} {mv wv:V} {s:St} {i:Nat} {h:Heap} {n n':Nat} {τ:Gh} {L:List Nat} {M:MM} (hi:i≤N) (hs:F4_L1110100 mv wv (.ptr m 0) (.s (.int .i64 (i:Nat))) h n' s) (g:Goer hp n0 m c i h n τ L M) (hn:n≤n'):StayI hp n0 N m c mv wv (N-i) s:=
 ⟨i,h,n',τ,L,M,rfl,hi,hs,g.same (Same.refl _ _ _) hn⟩
theorem stay_ahead {hp:Heap} {n0 N m c:Nat} {mv wv:V} (hO:OpsArg hp n0 mv N) (hN:N≤200) {Q:X→St→Prop}
  (hQ:∀ t6 h n τ L M s,F4_L1110100 mv wv (.ptr m 0) t6 h n s→Goer hp n0 m c N h n τ L M→Q (.exit 0) s) :
  ∀ k s,StayI hp n0 N m c mv wv k s→LoopK CC none (subC [1,1,1,0,1,0,0] (bodyOf Tryz.f4)) s Q:=by
 refine loopH CCok _ ?_
 rintro k s ⟨i,h,n,τ,L,M,hk,hi,hs,g⟩ hlt
 obtain ⟨g',rfl⟩:=hs
 rw [F4_b1110100]
 obtain ⟨hlen,hnorm,hix⟩:=hO
 by_cases hi':i<N
 ·have e3:wrapF .i64 ((i:Int)+1)=((i+1:Nat):Int):=by rw [wrapF_i64 (by omega) (by omega)]; rfl
  obtain ⟨p,off,A,es,kind,id,NN,prog,cell,size,w,dk,dkey,dval,dmax,kv,dv,kl,dl,kb,db,pn,hx,hc,hA,ht,kn,dn,hkB,hdB,lk,ld,byk,byd⟩:=hix i hi'
  have hc1:=cellsAt_same hc (g.non p pn).2
  have nle:=g.le
  have gev:=g.ev
  have gla:=g.la
  simp [hlen,hi',hx,hc1,ble_dec,hA,ht]
  refine CallK.monoN ?_ (do_ok kind id NN prog cell size w dk dkey dval dmax g.I g.H (by omega) (by omega) (by omega) (g.non kb kn).1 (hkB.of (g.non kb kn).2) byk lk (by omega) (g.non db dn).1 (hdB.of (g.non db dn).2) byd ld)
  rintro _ h3 n3 ⟨⟨a,b,e,rfl,he⟩,τ',I3,K3,L',H3⟩ hn3
  obtain ⟨G3,gr⟩:=good_do g.G (opR kind id NN prog cell size w dk dkey dval dmax kl dl) byk
  have g3:=g.go I3 K3 hn3 H3 G3 gr
  simp
  simp only [roundQ]
  exact ⟨N-(i+1),h3,by omega,fun hok b o hb=>⟨o,hb,hok b o hb⟩,StayI.of (i:=i+1) (by omega) (by rw [e3]; exact F4_L1110100_of) g3 (Nat.le_refl _)⟩
 ·have:i=N:=by omega
  subst this
  simp [hlen,roundQ]
  exact hQ _ h n _ _ _ _ F4_L1110100_of g
end Go.Ev
end
section
namespace Go.Ev
open Proofs
set_option maxRecDepth 20000
attribute [local simp ↓] oK_S cond_S callK_S loopK_S
attribute [local simp] oKS_some condS_t condS_f
def EachI (F:Nat→Prop) (hB:Heap) (nB m c:Nat) (L:List Nat) (ds:List OneM) (wv dv:V) (k:Nat) (s:St):Prop:=∃ (i:Nat) (h:Heap) (n:Nat) (τ:Gh) (M:MM),k=ds.length+1-i∧1≤i∧i≤ds.length+1∧F4_L1111110100 wv (.ptr m 0) dv (.s (.int .i64 (i:Nat))) h n s ∧
 Rest F hB m c L h n τ M∧GoodM M∧Clean M∧M.ones.map (·.d)=ds.map (·.d)∧nB≤n∧M.last≤20000∧M.ev.length≤1000+2*i
theorem EachI.of {F:Nat→Prop} {hB:Heap} {nB m c:Nat} {L:List Nat} {ds:List OneM} {wv dv:V} {s:St} {i:Nat} {h:Heap} {n n':Nat} {τ:Gh} {M:MM} (h1:1≤i) (h2:i≤ds.length+1) (hs:F4_L1111110100 wv (.ptr m 0) dv (.s (.int .i64 (i:Nat))) h n' s)
  (r:Rest F hB m c L h n τ M) (hn:n≤n') (G:GoodM M) (cl:Clean M) (hd:M.ones.map (·.d)=ds.map (·.d)) (le:nB≤n) (la:M.last≤20000) (ev:M.ev.length≤1000+2*i):EachI F hB nB m c L ds wv dv (ds.length+1-i) s:=
 ⟨i,h,n',τ,M,rfl,h1,h2,hs,r.same (Same.refl _ _ _) hn,G,cl,hd,by omega,la,ev⟩
theorem decls_set {M:MM} {id:Int} {o o':OneM} (h:M.at id=some o) (hd:o'.d=o.d):(M.setO id o').ones.map (·.d)=M.ones.map (·.d):=by
 obtain ⟨h1,h2⟩:=MM.at_some h
 show (M.ones.set (idxOf id) o').map (·.d)=_
 refine List.ext_getElem? fun i=>?_
 rw [List.getElem?_map,List.getElem?_map,List.getElem?_set]
 split
 ·rename_i e
  subst e
  rw [h2]
  have:=(List.getElem?_eq_some_iff.1 h2).1
  rw [if_pos this]
  simp [hd]
 ·rfl
theorem M1_ev (M:MM) (id:Int) (o:OneM) (k:List Int) (x:Int):(M1 M id o k x).ev.length=M.ev.length+1:=by
 unfold M1 MM.note; simp; rfl
theorem M2_ev (M:MM) (id:Int) (o:OneM) (k:List Int) (x v:Int):(M2 M id o k x v).ev.length=M.ev.length+2:=by
 unfold M2 MM.note; simp; exact M1_ev _ _ _ _ _
set_option maxHeartbeats 8000000 in
theorem stay_each {F:Nat→Prop} {hB:Heap} {nA nB m c:Nat} {L:List Nat} {ds:List OneM} {w:Int} {dv:V} (hw0:0≤w) (hw1:w<18446744073709551616) (hD:DeclsB nA nB hB dv ds) (hF:∀ x,nA≤x→x<nB→F x) (d8:ds.length≤8) {Q:X→St→Prop}
  (hQ:∀ t8 h n s,F4_L1111110100 (.s (.int .u64 w)) (.ptr m 0) dv t8 h n s→Q (.exit 2) s) :
  ∀ k s,EachI F hB nB m c L ds (.s (.int .u64 w)) dv k s→LoopK CC none (subC [1,1,1,1,1,1,0,1,0,0] (bodyOf Tryz.f4)) s Q:=by
 refine loopH CCok _ ?_
 rintro k s ⟨i,h,n,τ,M,hk,hi1,hi2,hs,g,G,cl,hd,nle,gla,gev⟩ hlt
 obtain ⟨g',rfl⟩:=hs
 rw [F4_b1111110100]
 have hlD:=hD.len
 by_cases hi':i≤ds.length
 ·have e3:wrapF .i64 ((i:Int)+1)=((i+1:Nat):Int):=by rw [wrapF_i64 (by omega) (by omega)]; rfl
  obtain ⟨q,hq⟩:∃ q,q+1=i:=⟨i-1,by omega⟩
  have e1:wrapF .i64 ((i:Int)-1)=(q:Int):=by rw [wrapF_i64 (by omega) (by omega)]; omega
  have hll:M.ones.length=ds.length:=by have:=congrArg List.length hd; simpa using this
  obtain ⟨o,ho⟩:∃ o,M.ones[q]? = some o:=⟨_,List.getElem?_eq_getElem (by omega)⟩
  obtain ⟨o',ho'⟩:∃ o',ds[q]? = some o':=⟨_,List.getElem?_eq_getElem (by omega)⟩
  have hod:o'.d=o.d:=by
   have:=congrArg (fun l:List DeclR=>l[q]?) hd
   simp only [List.getElem?_map,ho,ho',Option.map_some,Option.some.injEq] at this
   exact this.symm
  have hat:M.at (i:Nat)=some o:=by
   unfold MM.at
   rw [if_pos (by omega),show ((i:Int)-1).toNat=q from by omega]
   exact ho
  have fin:=G.fine o (List.mem_of_getElem? ho)
  simp [hlD,hi']
  refine CallK.monoN ?_ (rows_ok g.I g.H i fun o ho=>(keys_good (G.fine o (List.mem_of_getElem? (MM.at_some ho).2)).1 (G.fine o (List.mem_of_getElem? (MM.at_some ho).2)).2).tells)
  rintro rv h1 n1 ⟨⟨nR,hnR,hR⟩,s1⟩ hn1
  have g1:=g.same s1 hn1
  have gm:=g.more s1 hn1
  have hlR:=hR.len
  obtain ⟨aD,kD,AD,dix,dg,dk1,dk2,aDn⟩:=(hD.fz (h':=h1) fun x hx hx'=>(g1.fz x (hF x hx hx')).2.2).row ho'
  rw [hod] at dk1
  by_cases k2:o.d.kind=2
  rotate_left
  by_cases k3:o.d.kind=3
  rotate_left
  ·simp [e1,dix,cellsAt,dg,dk1,k2,k3]
   simp only [roundQ]
   exact ⟨ds.length+1-(i+1),h1,by omega,fun hok b o hb=>⟨o,hb,hok b o hb⟩,EachI.of (i:=i+1) (by omega) (by omega) (by rw [e3]; exact F4_L1111110100_of) g1 (Nat.le_refl _) G cl hd (by omega) gla (by omega)⟩
  all_goals
   have hky:hashy o:=by first | exact .inl k2 | exact .inr k3
   by_cases hne:(rowsF M i).length=0
  ·simp [e1,dix,cellsAt,dg,dk1,k2,hlR,hne]
   simp only [roundQ]
   exact ⟨ds.length+1-(i+1),h1,by omega,fun hok b o hb=>⟨o,hb,hok b o hb⟩,EachI.of (i:=i+1) (by omega) (by omega) (by rw [e3]; exact F4_L1111110100_of) g1 (Nat.le_refl _) G cl hd (by omega) gla (by omega)⟩
  rotate_left
  ·simp [e1,dix,cellsAt,dg,dk1,k3,hlR,hne]
   simp only [roundQ]
   exact ⟨ds.length+1-(i+1),h1,by omega,fun hok b o hb=>⟨o,hb,hok b o hb⟩,EachI.of (i:=i+1) (by omega) (by omega) (by rw [e3]; exact F4_L1111110100_of) g1 (Nat.le_refl _) G cl hd (by omega) gla (by omega)⟩
  all_goals
   obtain ⟨hrow,kB,k16,_,h64⟩:=rows_at G hat hky (j:=0) (by omega)
   obtain ⟨x,l,hf,hC,hv,l1,l64⟩:=hrow
   have gg:Gone M i o (rowsF M i)[0].1 x l:=⟨G,cl,hat,hky,hf,hC,l1⟩
   obtain ⟨a,oo,A,u,y,b,d,hix,hg,hu,hy,hb,hdd,an,bn,dn,nu,ny⟩:=hR.row2 hnR (j:=0) (by omega)
   replace hix:indexAddr CC 40 rv (.s (.int .i64 0))=some (.ptr a (oo+0*2)):=hix
   simp only [Nat.zero_mul,Nat.add_zero] at hix hu hy
  simp [e1,dix,cellsAt,dg,dk1,k3,hlR,hne,hix,hg,hu,nu]
  rotate_left
  simp [e1,dix,cellsAt,dg,dk1,k2,hlR,hne,hix,hg,hu,nu]
  all_goals
   refine CallK.monoN ?_ (mPeek_ok (kb:=b) gm.I gm.H i (by omega) hb kB (by omega))
   rintro _ h2 n2 ⟨rfl,s2⟩ hn2
   have gm2:=gm.same s2 hn2
   have fr2:∀ x,n≤x→x<n1→h2.get x=h1.get x:=fun x hx hx'=>(gm2.fz x (.inr ⟨hx,hx'⟩)).2.2
   have hg2:=(fr2 a an.1 an.2).trans hg
   simp [hat,hf,pairV,hix,cellsAt,hg2,hu,nu]
   have gm2':=gm2.same (Same.refl n2 [] h2) (Nat.le_add_right n2 23)
   refine CallK.monoN ?_ (deleteM_ok gm2'.I gm2'.H (by omega) i (by have:=bn.2; omega) (gm2.fz b (.inr bn)).2.1 (hb.of (fr2 b bn.1 bn.2)) kB (by omega))
   rintro _ h3 n3 ⟨rfl,τ3,I3,K3,H3⟩ hn3
   have gm3:=gm2'.go I3 K3 hn3 H3
   rw [gg.del] at gm3
   replace gm3:Rest _ h1 m c L h3 n3 τ3 (M1 M i o (rowsF M i)[0].1 x):=gm3
   have fr3:∀ x,n≤x→x<n1→h3.get x=h1.get x:=fun x hx hx'=>(gm3.fz x (.inr ⟨hx,hx'⟩)).2.2
   have hg3:=(fr3 a an.1 an.2).trans hg
   simp [gg.del,hix,cellsAt,hg3,hy,ny]
   refine CallK.monoN ?_ (mBytes_ok gm3.I gm3.H x)
   rintro bv h4 n4 ⟨hB4,s4⟩ hn4
   obtain ⟨a4,hB9,_⟩:=hB4.at n4
   rw [bytesF_at (show (M1 M i o (rowsF M i)[0].1 x).C x=some (l,true) by rw [gg.c1,updG_same]),← hv] at hB9
   have gm4:=gm3.same s4 hn4
   have fr4:∀ x,n≤x→x<n1→h4.get x=h1.get x:=fun x hx hx'=>(gm4.fz x (.inr ⟨hx,hx'⟩)).2.2
   have hg4:=(fr4 a an.1 an.2).trans hg
   have hd4:=hdd.of (fr4 d dn.1 dn.2)
   simp [cellsAt,hg4,hy,ny]
   refine CallK.monoN ?_ (sameB_ok (.inl hB9) (.inl hd4) (by rw [hv]; omega))
   rintro _ h5 n5 ⟨rfl,e⟩ hn5
   obtain rfl:h4=h5:=e.symm
   have gm5:=gm4.same (Same.refl n4 [] h4) hn5
   simp
   refine CallK.monoN ?_ (mStore_ok gm5.I gm5.H (by rw [M1_ev]; omega) x 0 1 w)
   rintro r6 h6 n6 ⟨τ6,I6,K6,hr6⟩ hn6
   rcases hr6 with ⟨_,hno,_⟩ | ⟨rfl,_,H6⟩
   ·exact absurd gg.inC hno
   have gm6:=gm5.go I6 K6 hn6 H6
   replace gm6:Rest _ h1 m c L h6 n6 τ6 (M2 M i o (rowsF M i)[0].1 x w):=gm6
   refine CallK.monoN ?_ (mLoad_ok gm6.I gm6.H x 0 1)
   rintro r7 h7 n7 ⟨hr7,s7⟩ hn7
   have gm7:=gm6.same s7 hn7
   have c2:(M2 M i o (rowsF M i)[0].1 x w).C x=some (splice l 0 (bytesOf w 1),true):=by rw [gg.c2,updG_same]
   have hv7:r7=.tup [.s (.int .u64 (w.tmod 256)),.s (.bool true)]:=by
    rcases hr7 with ⟨_,hno⟩ | ⟨l7,d7,hC7,_,e7⟩
    ·refine absurd ⟨_,_,c2,.inl rfl,by omega,?_⟩ hno
     rw [splice_length (by simp [bytesOf]; omega)]; omega
    ·rw [c2] at hC7
     cases hC7
     rw [e7]
     exact congrArg (fun z=>V.tup [.s (.int .u64 z),.s (.bool true)]) (load_byte l1 hw0 hw1)
   subst hv7
   have br:=fun t=>bin_rem (C:=CC) t true .u64 w (b:=256) (by decide)
   simp [br]
   refine CallK.monoN ?_ (sweepM_ok gm7.I gm7.H (by show M.last≤_; omega))
   rintro _ h8 n8 ⟨rfl,τ8,I8,K8,H8⟩ hn8
   have gm8:=gm7.go I8 K8 hn8 H8
   rw [gg.swept w]
   have C8:(sweepF (M2 M i o (rowsF M i)[0].1 x w)).C x=none:=by rw [gg.c3,updG_same]
   simp
   refine CallK.monoN ?_ (mSize_ok gm8.I gm8.H x)
   rintro _ h9 n9 ⟨rfl,s9⟩ hn9
   have gm9:=gm8.same s9 hn9
   have b0:bytesF (sweepF (M2 M i o (rowsF M i)[0].1 x w)).C x=[]:=by unfold bytesF; rw [C8]
   rw [b0]
   simp
   refine CallK.monoN ?_ (mStore_ok gm9.I gm9.H (by show (M2 M i o (rowsF M i)[0].1 x w).ev.length≤_; rw [M2_ev]; omega) x 0 1 w)
   rintro r10 h10 n10 ⟨τ10,I10,K10,hr10⟩ hn10
   rcases hr10 with ⟨rfl,_,H10⟩ | ⟨_,⟨l',d',hC',_⟩,_⟩
   rotate_left
   ·rw [C8] at hC'; cases hC'
   have gm10:=gm9.go I10 K10 hn10 H10
   have at10:=gg.at3 w
   have hR10:RowsB n nR n10 h10 rv (rowsF M i):=hR.fz hnR (fun x hx hx'=>(gm10.fz x (.inr ⟨hx,hx'⟩)).2.2) (by omega)
   simp
   refine LoopS.of (stay_rows (rs:=rowsF M i) gm10.I gm10.H at10 h64 hR10 (fun j hj h1=>?_) ?_ _ _ ⟨1,h10,n10,rfl,Nat.le_refl _,F4_L11111101001001111111100_of,Nat.le_refl _,Same.refl _ _ _⟩)
   ·obtain ⟨⟨x',l',hf',hC',hv',l1',l64'⟩,kB',k16',hne',_⟩:=rows_at G hat hky hj
    obtain ⟨o1,o2⟩:=gg.other w (hne' (by omega) h1) hf'
    exact ⟨⟨x',o1,by rw [o2,bytesF_at hC',hv']⟩,kB',k16',by rw [hv']; exact l64'⟩
   rintro t15 h11 n11 s11 ⟨g11,rfl⟩ hn11 hs11
   rw [F4_r11111101001001111111100_4]
   have gm11:=gm10.same hs11 hn11
   have gE:Rest F hB m c L h11 n11 τ10 (sweepF (M2 M i o (rowsF M i)[0].1 x w)):=g.less s1 gm11
   simp
   simp only [roundQ]
   exact ⟨ds.length+1-(i+1),h11,by omega,fun hok b o hb=>⟨o,hb,hok b o hb⟩,EachI.of (i:=i+1) (by omega) (by omega) (by rw [e3]; exact F4_L1111110100_of) gE (Nat.le_refl _) (gg.good w).2.2 (clean_sweep (gg.good w).2.1) ((decls_set hat (delO_d _ _)).trans hd) (by omega) gla (by show (M2 M i o (rowsF M i)[0].1 x w).ev.length≤_; rw [M2_ev]; omega)⟩
 ·simp [hlD,hi',roundQ]
  exact hQ _ h n _ F4_L1111110100_of
end Go.Ev
end
section
namespace Go.Ev
open Proofs
set_option maxRecDepth 20000
attribute [local simp ↓] oK_S cond_S callK_S loopK_S
attribute [local simp] oKS_some condS_t condS_f
theorem mapsStay {hp:Heap} {n0 N:Nat} {mv:V} {w:Int} (hO:OpsArg hp n0 mv N) (hw0:0≤w) (hw1:w<18446744073709551616) (kw:∀ h n,CallK CC 11 [] h n fun v h' n'=>v=.s (.bool true)):CallK CC 4 [mv,.s (.int .u64 w)] hp n0 fun v _ _=>v=.s (.bool true):=by
 refine F4_call fun hlt=>?_
 rw [F4_eq]
 refine CallK.monoN ?_ (long12_ok hO)
 rintro _ h1 n1 ⟨⟨b,rfl,hb⟩,e1⟩ hn1
 obtain rfl:hp=h1:=e1.symm
 cases b with
 | true=>
  simp
  refine CallK.monoN ?_ (kw _ _)
  rintro v _ _ rfl _
  rfl
 | false=>
  have h200:=hb rfl
  simp
  refine CallK.monoN ?_ (newMaps_ok (tinv_nil (h:=hp) (n:=n1)))
  rintro _ h2 n2 ⟨τ,I,K,m,c,rfl,hm,H⟩ hn2
  simp
  refine LoopS.of (stay_ahead hO h200 ?_ _ _ (StayI.of (i:=0) (by omega) F4_L1110100_of ⟨I,H,GoodM.nil,by omega,fun x hx=>K.non x (by omega) rfl,by simp,by simp⟩ (Nat.le_refl _)))
  rintro t6 h3 n3 τ3 L3 M3 s ⟨g',rfl⟩ g3
  rw [F4_r1110100_0]
  have gla:=g3.la
  have gev:=g3.ev
  simp
  refine CallK.monoN ?_ (sweepM_ok g3.I g3.H (by omega))
  rintro _ h4 n4 ⟨rfl,τ4,I4,K4,H4⟩ hn4
  simp
  refine CallK.monoN ?_ (decls_ok I4 H4)
  rintro dv h5 n5 ⟨hD,s5⟩ hn5
  have r4:Rest (fun _=>False) h4 m c L3 h4 n4 τ4 (sweepF M3):=⟨I4,H4,fun _ hx=>hx.elim⟩
  have r5:=r4.more s5 hn5
  have l8:=H4.l8
  have ll:=H4.len
  simp
  refine LoopS.of (stay_each (nA:=n4) (nB:=n5) hw0 hw1 hD (fun x hx hx'=>.inr ⟨hx,hx'⟩) (by omega) ?_ _ _ (EachI.of (i:=1) (Nat.le_refl _) (by omega) F4_L1111110100_of r5 (Nat.le_refl _) (good_sweep g3.G) (clean_sweep g3.G) rfl (Nat.le_refl _) (by show M3.last≤_; omega) (by show M3.ev.length≤_; omega)))
  rintro t8 h6 n6 s ⟨g6,rfl⟩
  rw [F4_r1111110100_2]
  refine CallK.monoN ?_ (kw _ _)
  rintro v _ _ rfl _
  rfl
end Go.Ev
end
