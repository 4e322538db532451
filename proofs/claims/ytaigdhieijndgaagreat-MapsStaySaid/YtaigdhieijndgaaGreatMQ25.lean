import Derived.Test.YtaigdhieijndgaaGreatMQ24
import Derived.Test.YtaigdhieijndgaaGreatRI2
section
namespace Go.Ev
open Proofs
set_option maxRecDepth 20000
theorem appendWK_mono {sz bytes:Nat} {h:Heap} {n:Nat} {a x:V} {K K':V→Heap→Nat→Prop} (hm:∀ v h n,K v h n→K' v h n) (k:appendWK sz bytes h n a x K):appendWK sz bytes h n a x K':=oK_mono (fun _ h=>hm _ _ _ h) k
theorem keepSet {fp:Fp} {τ τ':Gh} {h h' h'':Heap} {n p:Nat} (K:Keep fp τ τ' n h h') (hp:n≤p) (e:∀ x,x≠p→h''.get x=h'.get x):Keep fp τ τ' n h h'':=
 ⟨K.ty,fun x hx ht=>⟨(K.non x hx ht).1,by rw [e x (by omega)]; exact (K.non x hx ht).2⟩,fun b k x hb hx a b' c d=>by rw [e x (by omega)]; exact K.mem b k x hb hx a b' c d⟩
def mkO (X:MM) (d:DeclR):MM×OneM:=
 if d.kind=1 then ({ X with C:=mkF X.C X.last d.val.toNat d.mx.toNat,last:=X.last+d.mx },⟨d,.arr (idsF X.last d.mx.toNat d.mx.toNat)⟩)
 else if d.kind=2 then (X,⟨d,.hash (newH d.key.toNat d.mx.toNat)⟩)
 else if d.kind=3 then (X,⟨d,.lru d.key.toNat d.mx.toNat []⟩)
 else (X,⟨d,.progs (List.replicate d.mx.toNat 0)⟩)
def MM.push (X:MM) (o:OneM):MM:={ X with ones:=X.ones++[o] }
def createF (X:MM) (d:DeclR):MM×Int×Int:=
 if (8:Int)≤(X.ones.length:Nat) then (X,0,9) else if ¬ (1≤d.kind∧d.kind≤4) then (X,0,13) else if ¬ MayR d.kind d.key d.val d.mx then (X,0,14) else ((mkO X d).1.push (mkO X d).2,((X.ones.length+1:Nat):Int),0)
def CreateP (X:MM) (d:DeclR) (m c n:Nat) (τ:Gh) (h h':Heap) (n':Nat) (r:V):Prop:=r=.tup [.s (.int .i64 (createF X d).2.1),.s (.int .i64 (createF X d).2.2)]∧Goes anyFp τ n h h' n' fun τ'=>∃ L',MapsX τ' m c L' (createF X d).1
theorem create_ok {τ:Gh} {h:Heap} {n m c:Nat} {L:List Nat} {X:MM} (I:TInv τ h n) (H:MapsX τ m c L X) (hla:X.last≤4611686018427380000) (kind key val mx:Int) :
  CallK CC 45 [.ptr m 0,.agg (.lst [.s (.int .i64 kind),.s (.int .i64 key),.s (.int .i64 val),.s (.int .i64 mx)])] h n fun r h' n'=>CreateP X ⟨kind,key,val,mx⟩ m c n τ h h' n' r:=by
 refine F45_call fun hlt=>?_
 rw [F45_eq]
 have hsm:Same n [] h (h.set n (.cells (.lst [.s (.int .i64 kind),.s (.int .i64 key),.s (.int .i64 val),.s (.int .i64 mx)]) 4)):=Same.new _ _ _ _
 have hg0:(h.set n (.cells (.lst [.s (.int .i64 kind),.s (.int .i64 key),.s (.int .i64 val),.s (.int .i64 mx)]) 4)).get n=some (.cells (.lst [.s (.int .i64 kind),.s (.int .i64 key),.s (.int .i64 val),.s (.int .i64 mx)]) 4):=by rw [Tree.get_set,if_pos rfl]
 simp only [cells_agg,oK_some,Rope.toList_lst]
 generalize (h.set n (.cells (.lst [.s (.int .i64 kind),.s (.int .i64 key),.s (.int .i64 val),.s (.int .i64 mx)]) 4))=h1 at hsm hg0 ⊢
 have I1:TInv τ h1 (n+1):=I.same hsm (by omega)
 obtain ⟨hmn,lv,evv,es,hm1,hL,hE,hEs⟩:=I1 m _ H.m0
 have mn:=(I m _ H.m0).1
 have nl:=(growM_norm hL).1
 have l8:=H.l8
 have hll:=H.len
 have la0:=H.la0
 have lenOf:∀ {τ h lv},GrowM τ h m 0 lv 1 L.length (L.map fun p=>.ptr p 0)→∀ h,lenV CC h 118 lv=some (.s (.int .i64 (L.length:Nat))):=by
  intro τ h lv hL h
  rcases hL with ⟨rfl,h0,_⟩ | ⟨_,d,_,⟨rfl,h0,_⟩ | ⟨o,k,op,A,rfl,_⟩⟩
  ·simp [h0]
  ·simp [h0]
  ·simp
 have hlen:=lenOf hL
 have quit:∀ h2 n2 e,Same n [] h h2→n≤n2→createF X ⟨kind,key,val,mx⟩=(X,0,e)→CreateP X ⟨kind,key,val,mx⟩ m c n τ h h2 n2 (.tup [.s (.int .i64 0),.s (.int .i64 e)]):=fun h2 n2 e s hn2 eC=>
  ⟨by rw [eC],τ,I.same s hn2,Keep.of_same s,L,by rw [eC]; exact H⟩
 simp [cellsAt,hm1,hlen,nl]
 by_cases h8:(8:Int)≤(L.length:Nat)
 ·simp [h8]
  exact quit h1 (n+1) 9 hsm (by omega) (by unfold createF; rw [if_pos (by omega)])
 ·simp [h8,hg0]
  refine CallK.monoN ?_ (within_ok _ _ _ _ _)
  rintro _ h2 n2 ⟨rfl,e2⟩ hn2
  obtain rfl:h1=h2:=e2.symm
  by_cases hk:1≤kind∧kind≤4
  ·simp [hk,hg0,ble_dec]
   refine CallK.monoN ?_ (may_ok kind key val mx _ _)
   rintro _ h3 n3 ⟨rfl,hs3⟩ hn3
   have s3:Same n [] h h3:=fun x hx hf=>by rw [hs3 x (by omega) (by simp),hsm x hx hf]
   by_cases hmay:MayR kind key val mx
   ·have hc:createF X ⟨kind,key,val,mx⟩=((mkO X ⟨kind,key,val,mx⟩).1.push (mkO X ⟨kind,key,val,mx⟩).2,((X.ones.length+1:Nat):Int),0):=by
     unfold createF; rw [if_neg (by omega),if_neg (fun h=>h hk),if_neg (fun h=>h hmay)]
    obtain ⟨k1,k2,k3,k4,k5,k6,k7,k8⟩:=hmay
    have hmay:MayR kind key val mx:=⟨k1,k2,k3,k4,k5,k6,k7,k8⟩
    have hg3:=(hs3 n (by omega) (by simp)).trans hg0
    simp [hmay,hg3]
    have hs4:Same n3 [] h3 (h3.set n3 (.cells (.lst [.s (.int .i64 kind),.s (.int .i64 key),.s (.int .i64 val),.s (.int .i64 mx),.s .nilIface,.s (.slice none 0 0)]) 6)):=Same.new _ _ _ _
    have gp:(h3.set n3 (.cells (.lst [.s (.int .i64 kind),.s (.int .i64 key),.s (.int .i64 val),.s (.int .i64 mx),.s .nilIface,.s (.slice none 0 0)]) 6)).get n3=some (.cells (.lst [.s (.int .i64 kind),.s (.int .i64 key),.s (.int .i64 val),.s (.int .i64 mx),.s .nilIface,.s (.slice none 0 0)]) 6):=by rw [Tree.get_set,if_pos rfl]
    generalize (h3.set n3 (.cells (.lst [.s (.int .i64 kind),.s (.int .i64 key),.s (.int .i64 val),.s (.int .i64 mx),.s .nilIface,.s (.slice none 0 0)]) 6))=h4 at hs4 gp ⊢
    have s4:Same n [] h h4:=fun x hx hf=>by rw [hs4 x (by omega) (by simp),s3 x hx hf]
    have gn:=(hs4 n (by omega) (by simp)).trans hg3
    have I4:TInv τ h4 (n3+1):=I.same s4 (by omega)
    obtain ⟨_,lv4,ev4,es4,hm4,hL4,hE4,hEs4⟩:=I4 m _ H.m0
    have nl4:=(growM_norm hL4).1
    have tp:τ n3=none:=I.none (by omega)
    obtain ⟨keyN,rfl⟩:∃ x:Nat,key=x:=⟨key.toNat,by omega⟩
    obtain ⟨valN,rfl⟩:∃ x:Nat,val=x:=⟨val.toNat,by omega⟩
    obtain ⟨mxN,rfl⟩:∃ x:Nat,mx=x:=⟨mx.toNat,by omega⟩
    have tail:∀ (τ6:Gh) (h6:Heap) (n6:Nat) (X6:MM) (o:OneM) (lv6 ev6:V),Keep anyFp τ τ6 n h h6→n3<n6→TInv τ6 h6 n6→MapsX τ6 m c L X6→n≤n6→τ6 n3=none→h6.get m=some (.cells (.lst [.ptr c 0,lv6,.s (.int .i64 X6.now),ev6]) 4) →
      NewOne τ6 h6 n n6 n3 L.length o→o.Fine →
      appendWK 1 8 (h6.set n6 (.cells (.lst [.ptr n3 0]) 1)) (n6+1) lv6 (.slice n6 0 1 1 false) fun v h' n'=>V.cells v=some (.one v)∧normV v=v∧(∀ h,lenV CC h 118 v=some (.s (.int .i64 ((L.length+1:Nat):Int))))∧h'.get m=some (.cells (.lst [.ptr c 0,lv6,.s (.int .i64 X6.now),ev6]) 4) ∧
       Goes anyFp τ n h (h'.set m (.cells (.lst [.ptr c 0,v,.s (.int .i64 X6.now),ev6]) 4)) n' fun τ'=>∃ L',MapsX τ' m c L' (X6.push o):=by
     intro τ6 h6 n6 X6 o lv6 ev6 K6 hn6 I6 H6 hnn6 t6 gm6 hO hF
     obtain ⟨_,lvx,evx,esx,hmx,hLx,_⟩:=I6 m _ H6.m0
     rw [gm6] at hmx
     injection hmx with e0
     injection e0 with e1 _
     injection e1 with e2
     injection e2 with _ e3
     injection e3 with elv e5
     subst elv
     have hrow:Row (h6.set n6 (.cells (.lst [.ptr n3 0]) 1)) 1 1 [.ptr n3 0] (.slice n6 0 1 1 false):=.row (A:=[.ptr n3 0]) (es:=1) (by simp [cellsAt,Tree.get_set]) rfl rfl
     have hGr:(lv6=.s (.slice none 0 0)∧L.length=0∧(L.map fun p=>V.ptr p 0)=[])∨(lv6≠.s (.slice none 0 0)∧∃ d,d<n6+1∧τ6 d=some (.part m 0)∧GrowAt (h6.set n6 (.cells (.lst [.ptr n3 0]) 1)) d lv6 1 L.length (L.map fun p=>.ptr p 0)):=by
      rcases hLx with q | ⟨q1,d,q2,q3⟩
      ·exact .inl q
      ·have hd:=(I6 d _ q2).1
       exact .inr ⟨q1,d,by omega,q2,q3.of (by rw [Tree.get_set,if_neg (by omega)])⟩
     refine growG_ok (P:=fun d=>τ6 d=some (.part m 0)) (by omega) hGr hrow ?_ ?_
     ·omega
     intro v' d' h7 n7 hd' hdn hn7 hv' hG hs7
     have hcell:V.cells v'=some (.one v')∧normV v'=v'∧∀ h,lenV CC h 118 v'=some (.s (.int .i64 ((L.length+1:Nat):Int))):=by
      rcases hG with ⟨rfl,_⟩ | ⟨o,k,op,A,rfl,_⟩
      ·exact absurd rfl hv'
      ·exact ⟨rfl,rfl,fun h=>by simp⟩
     refine ⟨hcell.1,hcell.2.1,hcell.2.2,?_,?_⟩
     ·rw [hs7 m (by omega) (by rw [H6.m0]; simp),Tree.get_set,if_neg (by omega)]; exact gm6
     ·have G:=created (o:=o) (h3:=h7) (n3:=n7) (p:=n3) (d':=d') (v':=v') K6 hnn6 I6 H6 (by omega) (by omega) hn6 t6 mn hO hF (by omega) (by rcases hd' with h | h; exact .inl (by omega); exact .inr h) hdn hv' hG (fun x hx hxp=>by rw [hs7 x (by omega) hxp,Tree.get_set,if_neg (by omega)]) gm6
      exact G.imp (fun _ _ _ h=>h) fun t ht=>⟨_,ht⟩
    unfold CreateP
    generalize createF X ⟨kind,(keyN:Nat),(valN:Nat),(mxN:Nat)⟩=W at hc ⊢
    by_cases c0:kind=1
    ·have eC:W=(({ X with C:=mkF X.C X.last valN mxN,last:=X.last+(mxN:Nat) }:MM).push ⟨⟨kind,(keyN:Nat),(valN:Nat),(mxN:Nat)⟩,.arr (idsF X.last mxN mxN)⟩,((X.ones.length+1:Nat):Int),0):=by
      rw [hc]; unfold mkO; rw [if_pos c0]; rfl
     simp [c0,gn,hm4]
     refine CallK.monoN ?_ (arrayNew_ok L.length (I4.weaken (show n3+1≤n3+1+14 by omega)) (by omega) (by omega) (by omega) (by omega) H.cs la0 (by omega))
     rintro _ h5 n5 ⟨τ5,I5,K5',a,rfl,hna,ha,c5⟩ hn5
     have K4':Keep cellFp τ τ (n3+1) h4 h4:=Keep.refl _ _ _ _
     have K5:=K4'.trans (show n3+1≤n3+1+14 by omega) K5'
     have K04:Keep anyFp τ τ n h h4:=Keep.of_same s4
     have K05:=K04.trans (show n≤n3+1 by omega) K5.any
     have H5:MapsX τ5 m c L { X with C:=mkF X.C X.last valN mxN,last:=X.last+(mxN:Nat) }:=H.cells I4 K5 c5 (by omega)
     have gp5:=((K5.non n3 (by omega) tp).2).trans gp
     have t5:=(K5.non n3 (by omega) tp).1
     obtain ⟨_,lv5,ev5,es5,gm5,hL5,hE5,hEs5⟩:=I5 m _ H5.m0
     have nl5:=(growM_norm hL5).1
     simp [gp5,storeCells,cellsOwn,Rope.put,ble_dec,Tree.get_set,show ¬ m=n3 by omega,gm5,nl5]
     have g6:(h5.set n3 (.cells (.lst [.s (.int .i64 kind),.s (.int .i64 (keyN:Nat)),.s (.int .i64 (valN:Nat)),.s (.int .i64 (mxN:Nat)),.iface 180 (.ptr a 0),.s (.slice none 0 0)]) 6)).get n3=some (.cells (.lst [.s (.int .i64 kind),.s (.int .i64 (keyN:Nat)),.s (.int .i64 (valN:Nat)),.s (.int .i64 (mxN:Nat)),.iface 180 (.ptr a 0),.s (.slice none 0 0)]) 6):=by rw [Tree.get_set,if_pos rfl]
     have e6:∀ x,x≠n3→(h5.set n3 (.cells (.lst [.s (.int .i64 kind),.s (.int .i64 (keyN:Nat)),.s (.int .i64 (valN:Nat)),.s (.int .i64 (mxN:Nat)),.iface 180 (.ptr a 0),.s (.slice none 0 0)]) 6)).get x=h5.get x:=fun x hx=>by rw [Tree.get_set,if_neg hx]
     generalize (h5.set n3 (.cells (.lst [.s (.int .i64 kind),.s (.int .i64 (keyN:Nat)),.s (.int .i64 (valN:Nat)),.s (.int .i64 (mxN:Nat)),.iface 180 (.ptr a 0),.s (.slice none 0 0)]) 6))=h6 at g6 e6 ⊢
     have I6:TInv τ5 h6 n5:=I5.of (Nat.le_refl _) fun x _ hx=>e6 x (by rintro rfl; exact hx t5)
     have K6:Keep anyFp τ τ5 n h h6:=keepSet K05 (by omega) e6
     rw [eC]
     refine appendWK_mono ?_ (tail τ5 h6 n5 _ ⟨⟨kind,(keyN:Nat),(valN:Nat),(mxN:Nat)⟩,.arr (idsF X.last mxN mxN)⟩ lv5 ev5 K6 (by omega) I6 H5 (by omega) t5 ((e6 m (by omega)).trans gm5) ⟨.arr a,_,g6,ha,.inl ⟨rfl,by simp⟩⟩ ⟨hmay,c0,by simp⟩)
     rintro v7 h7 n7 ⟨f1,f2,f3,f4,f5⟩
     simp [f1,f4,Rope.put,Tree.get_set,f2,f3]
     exact ⟨by simp [hll],f5⟩
    ·by_cases c1:kind=2
     ·have eC:W=(X.push ⟨⟨kind,(keyN:Nat),(valN:Nat),(mxN:Nat)⟩,.hash (newH keyN mxN)⟩,((X.ones.length+1:Nat):Int),0):=by
       rw [hc]; unfold mkO; rw [if_neg c0,if_pos c1]; rfl
      simp [c1,gn]
      refine CallK.monoN ?_ (hashNew_ok L.length I4 (by omega) (by omega) (by omega) (by omega))
      rintro _ h5 n5 ⟨τ5,I5,K5,a,rfl,hna,ha⟩ hn5
      have K04:Keep anyFp τ τ n h h4:=Keep.of_same s4
      have K05:=K04.trans (show n≤n3+1 by omega) K5.any
      have H5:MapsX τ5 m c L X:=H.same I4 K5
      have gp5:=((K5.non n3 (by omega) tp).2).trans gp
      have t5:=(K5.non n3 (by omega) tp).1
      obtain ⟨_,lv5,ev5,es5,gm5,hL5,hE5,hEs5⟩:=I5 m _ H5.m0
      have nl5:=(growM_norm hL5).1
      simp [gp5,storeCells,cellsOwn,Rope.put,ble_dec,Tree.get_set,show ¬ m=n3 by omega,gm5,nl5]
      have g6:(h5.set n3 (.cells (.lst [.s (.int .i64 kind),.s (.int .i64 (keyN:Nat)),.s (.int .i64 (valN:Nat)),.s (.int .i64 (mxN:Nat)),.iface 182 (.ptr a 0),.s (.slice none 0 0)]) 6)).get n3=some (.cells (.lst [.s (.int .i64 kind),.s (.int .i64 (keyN:Nat)),.s (.int .i64 (valN:Nat)),.s (.int .i64 (mxN:Nat)),.iface 182 (.ptr a 0),.s (.slice none 0 0)]) 6):=by rw [Tree.get_set,if_pos rfl]
      have e6:∀ x,x≠n3→(h5.set n3 (.cells (.lst [.s (.int .i64 kind),.s (.int .i64 (keyN:Nat)),.s (.int .i64 (valN:Nat)),.s (.int .i64 (mxN:Nat)),.iface 182 (.ptr a 0),.s (.slice none 0 0)]) 6)).get x=h5.get x:=fun x hx=>by rw [Tree.get_set,if_neg hx]
      generalize (h5.set n3 (.cells (.lst [.s (.int .i64 kind),.s (.int .i64 (keyN:Nat)),.s (.int .i64 (valN:Nat)),.s (.int .i64 (mxN:Nat)),.iface 182 (.ptr a 0),.s (.slice none 0 0)]) 6))=h6 at g6 e6 ⊢
      have I6:TInv τ5 h6 n5:=I5.of (Nat.le_refl _) fun x _ hx=>e6 x (by rintro rfl; exact hx t5)
      have K6:Keep anyFp τ τ5 n h h6:=keepSet K05 (by omega) e6
      rw [eC]
      refine appendWK_mono ?_ (tail τ5 h6 n5 _ ⟨⟨kind,(keyN:Nat),(valN:Nat),(mxN:Nat)⟩,.hash (newH keyN mxN)⟩ lv5 ev5 K6 (by omega) I6 H5 (by omega) t5 ((e6 m (by omega)).trans gm5) ⟨.hash a,_,g6,ha,.inl ⟨rfl,by simp⟩⟩ ⟨hmay,c1,rfl,rfl,newH_fine (by omega) (by omega) (by omega)⟩)
      rintro v7 h7 n7 ⟨f1,f2,f3,f4,f5⟩
      simp [f1,f4,Rope.put,Tree.get_set,f2,f3]
      exact ⟨by simp [hll],f5⟩
     ·by_cases c2:kind=3
      ·have eC:W=(X.push ⟨⟨kind,(keyN:Nat),(valN:Nat),(mxN:Nat)⟩,.lru keyN mxN []⟩,((X.ones.length+1:Nat):Int),0):=by
        rw [hc]; unfold mkO; rw [if_neg c0,if_neg c1,if_pos c2]; rfl
       simp [c2,gn]
       refine CallK.monoN ?_ (lruNew_ok L.length I4 (by omega) (by omega) (by omega) (by omega))
       rintro _ h5 n5 ⟨τ5,I5,K5,a,rfl,hna,ha⟩ hn5
       have K04:Keep anyFp τ τ n h h4:=Keep.of_same s4
       have K05:=K04.trans (show n≤n3+1 by omega) K5.any
       have H5:MapsX τ5 m c L X:=H.same I4 K5
       have gp5:=((K5.non n3 (by omega) tp).2).trans gp
       have t5:=(K5.non n3 (by omega) tp).1
       obtain ⟨_,lv5,ev5,es5,gm5,hL5,hE5,hEs5⟩:=I5 m _ H5.m0
       have nl5:=(growM_norm hL5).1
       simp [gp5,storeCells,cellsOwn,Rope.put,ble_dec,Tree.get_set,show ¬ m=n3 by omega,gm5,nl5]
       have g6:(h5.set n3 (.cells (.lst [.s (.int .i64 kind),.s (.int .i64 (keyN:Nat)),.s (.int .i64 (valN:Nat)),.s (.int .i64 (mxN:Nat)),.iface 184 (.ptr a 0),.s (.slice none 0 0)]) 6)).get n3=some (.cells (.lst [.s (.int .i64 kind),.s (.int .i64 (keyN:Nat)),.s (.int .i64 (valN:Nat)),.s (.int .i64 (mxN:Nat)),.iface 184 (.ptr a 0),.s (.slice none 0 0)]) 6):=by rw [Tree.get_set,if_pos rfl]
       have e6:∀ x,x≠n3→(h5.set n3 (.cells (.lst [.s (.int .i64 kind),.s (.int .i64 (keyN:Nat)),.s (.int .i64 (valN:Nat)),.s (.int .i64 (mxN:Nat)),.iface 184 (.ptr a 0),.s (.slice none 0 0)]) 6)).get x=h5.get x:=fun x hx=>by rw [Tree.get_set,if_neg hx]
       generalize (h5.set n3 (.cells (.lst [.s (.int .i64 kind),.s (.int .i64 (keyN:Nat)),.s (.int .i64 (valN:Nat)),.s (.int .i64 (mxN:Nat)),.iface 184 (.ptr a 0),.s (.slice none 0 0)]) 6))=h6 at g6 e6 ⊢
       have I6:TInv τ5 h6 n5:=I5.of (Nat.le_refl _) fun x _ hx=>e6 x (by rintro rfl; exact hx t5)
       have K6:Keep anyFp τ τ5 n h h6:=keepSet K05 (by omega) e6
       rw [eC]
       refine appendWK_mono ?_ (tail τ5 h6 n5 _ ⟨⟨kind,(keyN:Nat),(valN:Nat),(mxN:Nat)⟩,.lru keyN mxN []⟩ lv5 ev5 K6 (by omega) I6 H5 (by omega) t5 ((e6 m (by omega)).trans gm5) ⟨.lru a,_,g6,ha,.inl ⟨rfl,by simp⟩⟩ ⟨hmay,c2,rfl,rfl,by simp⟩)
       rintro v7 h7 n7 ⟨f1,f2,f3,f4,f5⟩
       simp [f1,f4,Rope.put,Tree.get_set,f2,f3]
       exact ⟨by simp [hll],f5⟩
      ·have eC:W=(X.push ⟨⟨kind,(keyN:Nat),(valN:Nat),(mxN:Nat)⟩,.progs (List.replicate mxN 0)⟩,((X.ones.length+1:Nat):Int),0):=by
        rw [hc]; unfold mkO; rw [if_neg c0,if_neg c1,if_neg c2]; rfl
       simp [c0,c1,c2,gn,show 8*mxN≤281474976710656 by omega,show mxN<9223372036854775808 by omega]
       have t1:τ (n3+1)=none:=I.none (by omega)
       have hn4:∀ o,(h4.set (n3+1) o).get n3=h4.get n3:=fun o=>by rw [Tree.get_set,if_neg (by omega)]
       simp [storeCells,cellsOwn,hn4,gp,Rope.put,ble_dec,Tree.get_set,show ¬ m=n3 by omega,show ¬ m=n3+1 by omega,hm4,nl4]
       have g6:((h4.set (n3+1) (.cells (.lst (List.replicate mxN (.s (.int .i64 0)))) 1)).set n3 (.cells (.lst [.s (.int .i64 kind),.s (.int .i64 (keyN:Nat)),.s (.int .i64 (valN:Nat)),.s (.int .i64 (mxN:Nat)),.s .nilIface,.slice (n3+1) 0 mxN mxN false]) 6)).get n3=some (.cells (.lst [.s (.int .i64 kind),.s (.int .i64 (keyN:Nat)),.s (.int .i64 (valN:Nat)),.s (.int .i64 (mxN:Nat)),.s .nilIface,.slice (n3+1) 0 mxN mxN false]) 6):=by rw [Tree.get_set,if_pos rfl]
       have g61:((h4.set (n3+1) (.cells (.lst (List.replicate mxN (.s (.int .i64 0)))) 1)).set n3 (.cells (.lst [.s (.int .i64 kind),.s (.int .i64 (keyN:Nat)),.s (.int .i64 (valN:Nat)),.s (.int .i64 (mxN:Nat)),.s .nilIface,.slice (n3+1) 0 mxN mxN false]) 6)).get (n3+1)=some (.cells (.lst (List.replicate mxN (.s (.int .i64 0)))) 1):=by rw [Tree.get_set,if_neg (by omega),Tree.get_set,if_pos rfl]
       have e6:∀ x,x≠n3→x≠n3+1→((h4.set (n3+1) (.cells (.lst (List.replicate mxN (.s (.int .i64 0)))) 1)).set n3 (.cells (.lst [.s (.int .i64 kind),.s (.int .i64 (keyN:Nat)),.s (.int .i64 (valN:Nat)),.s (.int .i64 (mxN:Nat)),.s .nilIface,.slice (n3+1) 0 mxN mxN false]) 6)).get x=h4.get x:=fun x hx hx'=>by rw [Tree.get_set,if_neg hx,Tree.get_set,if_neg hx']
       generalize ((h4.set (n3+1) (.cells (.lst (List.replicate mxN (.s (.int .i64 0)))) 1)).set n3 (.cells (.lst [.s (.int .i64 kind),.s (.int .i64 (keyN:Nat)),.s (.int .i64 (valN:Nat)),.s (.int .i64 (mxN:Nat)),.s .nilIface,.slice (n3+1) 0 mxN mxN false]) 6))=h6 at g6 g61 e6 ⊢
       have s6:Same n [] h h6:=fun x hx _=>by rw [e6 x (by omega) (by omega),s4 x hx (by simp)]
       rw [eC]
       refine appendWK_mono ?_ (tail τ h6 (n3+1+1) X ⟨⟨kind,(keyN:Nat),(valN:Nat),(mxN:Nat)⟩,.progs (List.replicate mxN 0)⟩ lv4 ev4 (Keep.of_same s6) (by omega) (I.same s6 (by omega)) H (by omega) tp ((e6 m (by omega) (by omega)).trans hm4) ⟨.progs (List.replicate mxN 0),_,g6,rfl,.inr ⟨_,n3+1,rfl,by omega,by omega,by omega,t1,by simp,by rw [g61]; simp [kV]⟩⟩ ⟨hmay,by show kind=4; omega,by simp⟩)
       rintro v7 h7 n7 ⟨f1,f2,f3,f4,f5⟩
       simp [f1,f4,Rope.put,Tree.get_set,f2,f3]
       exact ⟨by simp [hll],f5⟩
   ·simp [hmay]
    exact quit h3 n3 14 s3 (by omega) (by unfold createF; rw [if_neg (by omega),if_neg (fun h=>h hk),if_pos hmay])
  ·simp [hk]
   exact quit h1 n2 13 hsm (by omega) (by unfold createF; rw [if_neg (by omega),if_pos hk])
theorem newMaps_ok {τ:Gh} {h:Heap} {n:Nat} (I:TInv τ h n):CallK CC 12 [] h n fun v h' n'=>Goes noFp τ n h h' n' fun τ'=>∃ m c,v=.ptr m 0∧n≤m∧MapsX τ' m c [] ⟨fun _=>none,0,[],0,[]⟩:=by
 refine F12_call fun hlt=>?_
 rw [F12_eq]
 refine CallK.monoN ?_ (newCells_ok I)
 rintro _ h1 n1 ⟨τ1,I1,K1,c,rfl,c1,R⟩ hn1
 simp
 have hs:Same n1 [] h1 (h1.set n1 (.cells (.lst [.ptr c 0,.s (.slice none 0 0),.s (.int .i64 0),.s (.slice none 0 0)]) 4)):=Same.new _ _ _ _
 have t1:∀ x,x<n1→upT τ1 n1 (.maps c [] 0 []) x=τ1 x:=fun x hx=>upT_other (by omega)
 have K2:Keep noFp τ1 (upT τ1 n1 (.maps c [] 0 [])) n1 h1 (h1.set n1 (.cells (.lst [.ptr c 0,.s (.slice none 0 0),.s (.int .i64 0),.s (.slice none 0 0)]) 4)):=Keep.news t1 hs
 refine ⟨upT τ1 n1 (.maps c [] 0 []),I1.news (by omega) t1 hs fun x k e hx=>?_,K1.trans hn1 K2,hn1,c,upT_same _ _ _,R.keep I1 K2 (fun _ _ _ _ h=>h.elim),rfl,fun i p o h1=>by simp at h1,by simp,by simp,Int.le_refl _⟩
 by_cases hxn:x=n1
 ·subst hxn; rw [upT_same] at e; cases e
  exact ⟨by omega,_,_,[],by rw [Tree.get_set,if_pos rfl],.inl ⟨rfl,rfl,rfl⟩,.inl ⟨rfl,rfl,rfl⟩,rfl⟩
 ·rw [upT_other hxn,I1.none hx] at e; cases e
end Go.Ev
end
section
namespace Go.Ev
open Proofs
set_option maxRecDepth 20000
def fourF (n:Int):List Int:=[wrapF .u8 n,wrapF .u8 (shrI .i64 n 8),wrapF .u8 (shrI .i64 n 16),wrapF .u8 (shrI .i64 n 24)]
theorem fourF_byt (n:Int):Byt (fourF n):=fun x hx=>by
 simp only [fourF,List.mem_cons,List.mem_nil_iff,or_false] at hx
 rcases hx with rfl | rfl | rfl | rfl <;> exact wrap_u8 _
theorem four_ok (x:Int) (h:Heap) (n:Nat):CallK CC 58 [.s (.int .i64 x)] h n fun v h' n'=>v=.slice n 0 4 4 false∧n<n'∧h'.get n=some (.cells (.lst (bytesV' (fourF x))) 1)∧Same n [] h h':=by
 refine F58_call fun hlt=>?_
 rw [F58_eq]
 have s1:binop CC .shr 3 true (.s (.int .i64 x)) (.s (.int .u64 8))=some (.s (.int .i64 (shrI .i64 x 8))):=bin_shr _ _ _ _ _ (by omega)
 have s2:binop CC .shr 3 true (.s (.int .i64 x)) (.s (.int .u64 16))=some (.s (.int .i64 (shrI .i64 x 16))):=bin_shr _ _ _ _ _ (by omega)
 have s3:binop CC .shr 3 true (.s (.int .i64 x)) (.s (.int .u64 24))=some (.s (.int .i64 (shrI .i64 x 24))):=bin_shr _ _ _ _ _ (by omega)
 simp [s1,s2,s3]
 exact ⟨by rw [Tree.get_set,if_pos rfl]; rfl,Same.new _ _ _ _⟩
def KeysB (n0 n:Nat) (h:Heap) (v:V) (ks:List (List Int)):Prop:=∃ a vs,GrowAt h a v 1 ks.length vs∧n0≤a∧(a<n∨v=.s (.slice none 0 0))∧vs.length=ks.length∧∀ (i:Nat) (k:List Int),ks[i]? = some k→∃ w b,vs[i]? = some w∧BytesAt h b w k∧n0≤b∧b<n∧b≠a
theorem KeysAt.b {n0 n:Nat} {h:Heap} {v:V} {ks:List (List Int)} (H:KeysAt n0 n h v ks):KeysB n0 n h v ks:=by
 obtain ⟨a,vs,hG,_,⟨h1,h2⟩,ha,hor⟩:=H
 refine ⟨a,vs,hG,ha,hor,h1,fun i k e=>?_⟩
 obtain ⟨b,r1,r2,r3,r4,r5⟩:=h2 i k e
 exact ⟨_,b,r1,.inr ⟨0,k.length,true,_,1,rfl,by simp [cellsAt,r5]; rfl,by rw [Nat.mul_one,List.drop_zero,bytes_take],by simp⟩,r2,r3,r4⟩
theorem keysB_snoc {n0 n b m:Nat} {h h4:Heap} {v w:V} {ks:List (List Int)} {k:List Int} (hK:KeysB n0 n h v ks) (hlt:∀ b o,h.get b=some o→b<n) (hn0:n0≤n) (hn:n≤m) (hl:ks.length≤100000)
  (hs:∀ x,x<n→h4.get x=h.get x) (hb:n≤b) (hbm:b<m) (hgb:BytesAt h4 b w k) {K:V→Heap→Nat→Prop}
  (H:∀ v' h6 n6,m+1≤n6→KeysB n0 n6 h6 v' (ks++[k])→(∀ x,x<n0→h6.get x=h.get x)→K v' h6 n6) :
  appendWK 1 24 (h4.set m (.cells (.lst [w]) 1)) (m+1) v (.slice m 0 1 1 false) K:=by
 obtain ⟨a,vs,hG,ha,hor,hvl,hvs⟩:=hK
 have gk:∀ x,x<n→(h4.set m (.cells (.lst [w]) 1)).get x=h.get x:=fun x hx=>by rw [Tree.get_set,if_neg (by omega),hs x hx]
 have hrow:Row (h4.set m (.cells (.lst [w]) 1)) 1 1 [w] (.slice m 0 1 1 false):=.row (A:=[w]) (es:=1) (by simp [cellsAt,Tree.get_set]) rfl rfl
 have hsz:(2*(ks.length+1)+192)*24≤281474976710656:=by omega
 obtain ⟨a2,c1,c2,hG',hK',ha2⟩:∃ a2,n0≤a2∧a2<m+1∧GrowAt (h4.set m (.cells (.lst [w]) 1)) a2 v 1 ks.length vs∧(∀ (i:Nat) (k:List Int),ks[i]? = some k→∃ w' b,vs[i]? = some w'∧BytesAt (h4.set m (.cells (.lst [w]) 1)) b w' k∧n0≤b∧b<n∧b≠a2)∧(a2=m∨a2<n):=by
  rcases hG with ⟨q1,q2,q3⟩ | ⟨o,k,op,A,q1,q2,q3,q4⟩
  ·have:ks=[]:=List.length_eq_zero_iff.1 q2
   subst q3; subst this
   exact ⟨m,by omega,by omega,.inl ⟨q1,rfl,rfl⟩,fun i k e=>by simp at e,.inl rfl⟩
  ·have:=hlt _ _ q3
   exact ⟨a,ha,by omega,.inr ⟨o,k,op,A,q1,q2,by rw [gk a this]; exact q3,q4⟩,fun i k e=>by obtain ⟨w',b,r1,r2,r3,r4,r5⟩:=hvs i k e; exact ⟨w',b,r1,r2.of (gk b r4),r3,r4,r5⟩,.inr this⟩
 refine grow_ok (m:=1) (new:=[w]) (by decide) hG' hrow c2 hsz ?_
 intro v' a' h6 n6 ha' han' hn6 hG6 hs6
 refine H v' h6 n6 hn6 ⟨a',vs++[w],by simpa using hG6,by omega,.inl han',by simp [hvl],fun i k' hi=>?_⟩ fun x hx=>by rw [hs6 x (by omega) (by omega),gk x (by omega)]
 by_cases hl:i<ks.length
 ·rw [List.getElem?_append_left hl] at hi
  obtain ⟨w',b',q1,q2,q3,q4,q5⟩:=hK' i k' hi
  exact ⟨w',b',by rw [List.getElem?_append_left (by omega)]; exact q1,q2.of (hs6 b' q5 (by omega)),q3,by omega,by omega⟩
 ·have:i=ks.length:=by
   have:=(List.getElem?_eq_some_iff.1 hi).1
   simp at this; omega
  subst this
  rw [List.getElem?_append_right (Nat.le_refl _),Nat.sub_self] at hi
  simp at hi
  subst hi
  exact ⟨w,b,by rw [List.getElem?_append_right (by omega),hvl]; simp,hgb.of (by rw [hs6 b (by omega) (by omega),Tree.get_set,if_neg (by omega)]),by omega,by omega,by omega⟩
def foursF (m:Nat):List (List Int):=(List.range m).map fun (i:Nat)=>fourF (i:Int)
theorem foursF_succ (m:Nat):foursF (m+1)=foursF m++[fourF (m:Int)]:=by simp [foursF,List.range_succ]
@[simp] theorem foursF_length (m:Nat):(foursF m).length=m:=by simp [foursF]
theorem fours_loop {N n0:Nat} {h0:Heap} (hN:N≤64) {Q:X→St→Prop}
  (hQ:∀ t3 t26 h n s,F57_L1110100 t3 (.s (.int .i64 (N:Nat))) t26 h n s→n0≤n→KeysB n0 n h t3 (foursF N)→Same n0 [] h0 h→Q (.exit 0) s) :
  ∀ m s,(∃ (i:Nat) (t3:V) (h:Heap) (n:Nat),m=N-i∧i≤N∧F57_L1110100 t3 (.s (.int .i64 (N:Nat))) (.s (.int .i64 (i:Nat))) h n s∧n0≤n∧KeysB n0 n h t3 (foursF i)∧Same n0 [] h0 h) →
   LoopK CC none (subC [1,1,1,0,1,0,0] (bodyOf Tryz.f57)) s Q:=by
 refine loopH CCok _ ?_
 rintro m s ⟨i,t3,h,n,hm,hi,hs,hn,hK,hsame⟩ hlt
 obtain ⟨g',rfl⟩:=hs
 rw [F57_b1110100]
 replace hlt:∀ b o,h.get b=some o→b<n:=hlt
 by_cases hi':i<N
 ·have e3:wrapF .i64 ((i:Int)+1)=((i+1:Nat):Int):=by rw [wrapF_i64 (by omega) (by omega)]; rfl
  have hsucc:=foursF_succ i
  simp [hi']
  refine CallK.monoN ?_ (four_ok (i:Int) h n)
  rintro _ h4 n4 ⟨rfl,b1,b2,b3⟩ hn4
  simp
  refine keysB_snoc (b:=n) (m:=n4) (k:=fourF (i:Int)) hK hlt hn (by omega) (by simp; omega) (fun x hx=>b3 x hx (by simp)) (Nat.le_refl _) b1 (.inr ⟨0,4,false,_,1,rfl,by simp [cellsAt,b2]; rfl,rfl,rfl⟩) ?_
  intro v' h6 n6 hn6 hK6 hs6
  simp [roundQ]
  exact ⟨N-(i+1),by omega,h6,fun hok b o hb=>⟨o,hb,hok b o hb⟩,i+1,rfl,by omega,v',h6,n6,by rw [e3]; exact F57_L1110100_of,by omega,by rw [hsucc]; exact hK6,fun x hx _=>by rw [hs6 x hx,hsame x hx (by simp)]⟩
 ·have:i=N:=by omega
  subst this
  simp [roundQ]
  exact hQ _ _ h n _ F57_L1110100_of hn hK hsame
def keysO (o:OneM):List (List Int):=match o.by_ with
 | .hash R=>sortK (keysH R R.st.length)
 | .lru _ _ rows=>sortK (keysL rows)
 | _=>foursF o.d.mx.toNat
theorem keysH_mem {R:HashR} {m:Nat} {k:List Int} (h:k∈keysH R m):∃ p,p<m∧R.st.getD p 0=1∧k=keyAt R p:=by
 obtain ⟨p,hp,rfl⟩:=List.mem_map.1 h
 obtain ⟨h1,h2⟩:=List.mem_filter.1 hp
 exact ⟨p,List.mem_range.1 h1,of_decide_eq_true h2,rfl⟩
theorem keys_ok {τ:Gh} {h:Heap} {n i p:Nat} {o:OneM} (I:TInv τ h n) (H:OneR τ i p o) (F:o.Fine) (h64:(keysO o).length≤64) :
  CallK CC 57 [.ptr p 0] h n fun v h' n'=>KeysB n n' h' v (keysO o)∧Same n [] h h':=by
 refine F57_call fun hlt=>?_
 rw [F57_eq]
 obtain ⟨by_,hp,hby⟩:=H
 obtain ⟨hpn,pv,hg,hpv⟩:=I p _ hp
 have hf:=F.by_
 have hmx:=F.may.2.2.2.2
 have hfour:o.by_=.progs (match o.by_ with | .progs l=>l | _=>[])∨(∃ ids,o.by_=.arr ids)→keysO o=foursF o.d.mx.toNat:=by
  intro hh
  unfold keysO
  rcases hh with hh | ⟨ids,hh⟩
  ·rw [hh]
  ·rw [hh]
 have fours:keysO o=foursF o.d.mx.toNat→LoopK CC none (subC [1,1,1,0,1,0,0] (bodyOf Tryz.f57))=LoopK CC none (subC [1,1,1,0,1,0,0] (bodyOf Tryz.f57)):=fun _=>rfl
 obtain ⟨N,hN⟩:∃ N:Nat,o.d.mx=N:=⟨o.d.mx.toNat,by omega⟩
 cases hbm:o.by_ with
 | progs l=>
  have eK:keysO o=foursF N:=by unfold keysO; rw [hbm,hN]; rfl
  rw [hbm] at hby
  cases by_ with
  | progs _=>
   rw [eK]
   simp [byV,cellsAt,hg,ta_nk,hN]
   refine fours_loop (n0:=n) (h0:=h) (by omega) ?_ _ _ ⟨0,_,h,n,rfl,by omega,F57_L1110100_of,by omega,⟨n,[],GrowAt.nil _ _ _,by omega,.inr rfl,rfl,fun i k e=>by simp [foursF] at e⟩,Same.refl _ _ _⟩
   intro t3 t26 h' n' s hs hn hK hsame
   obtain ⟨g',rfl⟩:=hs
   rw [F57_r1110100_0]
   exact ⟨hK,hsame⟩
  | _=>exact hby.elim
 | arr ids=>
  have eK:keysO o=foursF N:=by unfold keysO; rw [hbm,hN]; rfl
  rw [hbm] at hby
  cases by_ with
  | arr a=>
   rw [eK]
   simp [byV,cellsAt,hg,ta_ak,hN]
   refine fours_loop (n0:=n) (h0:=h) (by omega) ?_ _ _ ⟨0,_,h,n,rfl,by omega,F57_L1110100_of,by omega,⟨n,[],GrowAt.nil _ _ _,by omega,.inr rfl,rfl,fun i k e=>by simp [foursF] at e⟩,Same.refl _ _ _⟩
   intro t3 t26 h' n' s hs hn hK hsame
   obtain ⟨g',rfl⟩:=hs
   rw [F57_r1110100_0]
   exact ⟨hK,hsame⟩
  | _=>exact hby.elim
 | hash R=>
  have eK:keysO o=sortK (keysH R R.st.length):=by unfold keysO; rw [hbm]
  rw [hbm] at hby hf
  rw [eK] at h64 ⊢
  cases by_ with
  | hash a=>
   simp [byV,cellsAt,hg,ta_hk,inv_hk]
   refine CallK.monoN ?_ (hashKeys_ok I hby)
   rintro v h1 n1 ⟨hK,hs1⟩ hn1
   have hB:∀ k∈keysH R R.st.length,Byt k:=fun k hk=>by
    obtain ⟨p,_,_,rfl⟩:=keysH_mem hk
    exact keyAt_byt hf.2.2.2 p
   rw [(sortK_perm _).length_eq] at h64
   refine CallK.monoN ?_ (sortFunc_ok hn1 hK hB h64)
   rintro _ h2 n2 ⟨hK2,hs2⟩ hn2
   exact ⟨hK2.b,fun x hx _=>by rw [hs2 x hx (by simp),hs1 x hx (by simp)]⟩
  | _=>exact hby.elim
 | lru key most rows=>
  have eK:keysO o=sortK (keysL rows):=by unfold keysO; rw [hbm]
  rw [hbm] at hby hf
  rw [eK] at h64 ⊢
  cases by_ with
  | lru a=>
   simp [byV,cellsAt,hg,ta_lk,inv_lk]
   refine CallK.monoN ?_ (lruKeys_ok I hby)
   rintro v h1 n1 ⟨hK,hs1⟩ hn1
   have hB:∀ k∈keysL rows,Byt k:=fun k hk=>by
    obtain ⟨r,hr,rfl⟩:=List.mem_map.1 hk
    exact (hf.2.2.2 r hr).1
   rw [(sortK_perm _).length_eq] at h64
   refine CallK.monoN ?_ (sortFunc_ok hn1 hK hB h64)
   rintro _ h2 n2 ⟨hK2,hs2⟩ hn2
   exact ⟨hK2.b,fun x hx _=>by rw [hs2 x hx (by simp),hs1 x hx (by simp)]⟩
  | _=>exact hby.elim
end Go.Ev
end
section
namespace Go.Ev
open Proofs
set_option maxRecDepth 20000
def RowsB (n0 nR n:Nat) (h:Heap) (v:V) (rs:List (List Int×List Int)):Prop:=∃ a cs,GrowAt h a v 2 rs.length cs∧nR≤a∧(a<n∨v=.s (.slice none 0 0))∧cs.length=2*rs.length ∧
 ∀ (i:Nat) (r:List Int×List Int),rs[i]? = some r→∃ w x b d,cs[2*i]? = some w∧cs[2*i+1]? = some x∧BytesAt h b w r.1∧BytesAt h d x r.2∧n0≤b∧b<n∧b≠a∧n0≤d∧d<n∧d≠a
theorem rowsB_snoc {n0 nR n b d m:Nat} {h h4:Heap} {v w x:V} {rs:List (List Int×List Int)} {r:List Int×List Int} (hK:RowsB n0 nR n h v rs) (hlt:∀ b o,h.get b=some o→b<n) (hn0:n0≤nR) (hnR:nR≤n) (hn:n≤m) (hl:rs.length≤100000)
  (hs:∀ x,x<n→h4.get x=h.get x) (hb:n0≤b) (hbm:b<m) (hbR:b<nR∨n≤b) (hgb:BytesAt h4 b w r.1) (hd:n0≤d) (hdm:d<m) (hdR:d<nR∨n≤d) (hgd:BytesAt h4 d x r.2) {K:V→Heap→Nat→Prop}
  (H:∀ v' h6 n6,m+1≤n6→RowsB n0 nR n6 h6 v' (rs++[r])→(∀ x,x<nR→h6.get x=h.get x)→K v' h6 n6) :
  appendWK 2 48 (h4.set m (.cells (.lst [w,x]) 2)) (m+1) v (.slice m 0 1 1 false) K:=by
 obtain ⟨a,cs,hG,ha,hor,hvl,hvs⟩:=hK
 have gk:∀ y,y<n→(h4.set m (.cells (.lst [w,x]) 2)).get y=h.get y:=fun y hy=>by rw [Tree.get_set,if_neg (by omega),hs y hy]
 have hrow:Row (h4.set m (.cells (.lst [w,x]) 2)) 2 1 [w,x] (.slice m 0 1 1 false):=.row (A:=[w,x]) (es:=2) (by simp [cellsAt,Tree.get_set]) rfl rfl
 have hsz:(2*(rs.length+1)+192)*48≤281474976710656:=by omega
 obtain ⟨a2,c1,c2,hG',hK',ha2⟩:∃ a2,nR≤a2∧a2<m+1∧GrowAt (h4.set m (.cells (.lst [w,x]) 2)) a2 v 2 rs.length cs∧(∀ (i:Nat) (r:List Int×List Int),rs[i]? = some r→∃ w' x' b d,cs[2*i]? = some w'∧cs[2*i+1]? = some x'∧BytesAt (h4.set m (.cells (.lst [w,x]) 2)) b w' r.1∧BytesAt (h4.set m (.cells (.lst [w,x]) 2)) d x' r.2∧n0≤b∧b<n∧b≠a2∧n0≤d∧d<n∧d≠a2)∧(a2=m∨a2<n):=by
  rcases hG with ⟨q1,q2,q3⟩ | ⟨o,k,op,A,q1,q2,q3,q4⟩
  ·have:rs=[]:=List.length_eq_zero_iff.1 q2
   subst q3; subst this
   exact ⟨m,by omega,by omega,.inl ⟨q1,rfl,rfl⟩,fun i k e=>by simp at e,.inl rfl⟩
  ·have:=hlt _ _ q3
   exact ⟨a,ha,by omega,.inr ⟨o,k,op,A,q1,q2,by rw [gk a this]; exact q3,q4⟩,fun i k e=>by
    obtain ⟨w',x',b,d,r1,r2,r3,r4,r5,r6,r7,r8,r9,r10⟩:=hvs i k e
    exact ⟨w',x',b,d,r1,r2,r3.of (gk b r6),r4.of (gk d r9),r5,r6,r7,r8,r9,r10⟩,.inr this⟩
 refine grow_ok (m:=1) (new:=[w,x]) (by decide) hG' hrow c2 hsz ?_
 intro v' a' h6 n6 ha' han' hn6 hG6 hs6
 refine H v' h6 n6 hn6 ⟨a',cs++[w,x],by simpa using hG6,by omega,.inl han',by simp [hvl]; omega,fun i r' hi=>?_⟩ fun y hy=>by rw [hs6 y (by omega) (by omega),gk y (by omega)]
 by_cases hl:i<rs.length
 ·rw [List.getElem?_append_left hl] at hi
  obtain ⟨w',x',b',d',q1,q2,q3,q4,q5,q6,q7,q8,q9,q10⟩:=hK' i r' hi
  exact ⟨w',x',b',d',by rw [List.getElem?_append_left (by omega)]; exact q1,by rw [List.getElem?_append_left (by omega)]; exact q2,q3.of (hs6 b' q7 (by omega)),q4.of (hs6 d' q10 (by omega)),q5,by omega,by omega,q8,by omega,by omega⟩
 ·have:i=rs.length:=by
   have:=(List.getElem?_eq_some_iff.1 hi).1
   simp at this; omega
  subst this
  rw [List.getElem?_append_right (Nat.le_refl _),Nat.sub_self] at hi
  simp at hi
  subst hi
  have e1:(cs++[w,x])[2*rs.length]? = some w:=by rw [List.getElem?_append_right (by omega),hvl,Nat.sub_self]; rfl
  have e2:(cs++[w,x])[2*rs.length+1]? = some x:=by rw [List.getElem?_append_right (by omega),hvl,show 2*rs.length+1-2*rs.length=1 by omega]; rfl
  exact ⟨w,x,b,d,e1,e2,hgb.of (by rw [hs6 b (by omega) (by omega),Tree.get_set,if_neg (by omega)]),hgd.of (by rw [hs6 d (by omega) (by omega),Tree.get_set,if_neg (by omega)]),hb,by omega,by omega,hd,by omega,by omega⟩
def valO (X:MM) (o:OneM) (i:Nat) (k:List Int):List Int:=match o.by_ with
 | .progs l=>fourF (l.getD i 0)
 | _=>bytesF X.C ((findO o k).getD 0)
def rowsO (X:MM) (o:OneM) (m:Nat):List (List Int×List Int):=(List.range m).map fun i=>((keysO o).getD i [],valO X o i ((keysO o).getD i []))
theorem rowsO_succ (X:MM) (o:OneM) (m:Nat):rowsO X o (m+1)=rowsO X o m++[((keysO o).getD m [],valO X o m ((keysO o).getD m []))]:=by simp [rowsO,List.range_succ]
@[simp] theorem rowsO_length (X:MM) (o:OneM) (m:Nat):(rowsO X o m).length=m:=by simp [rowsO]
def rowsF (X:MM) (id:Int):List (List Int×List Int):=match X.at id with
 | none=>[]
 | some o=>rowsO X o (keysO o).length
theorem by_ne (b:ByP):binop CC .eql 20 true (byV b) (.s .nilIface)=some (.s (.bool (match b with | .progs _=>true | _=>false))):=by
 cases b <;> first | exact by_nn | exact by_an _ | exact by_hn _ | exact by_ln _
theorem byV_norm (b:ByP):normV (byV b)=byV b:=by cases b <;> rfl
theorem norm_bytesAt {h:Heap} {b:Nat} {v:V} {l:List Int} (H:BytesAt h b v l):normV v=v∧V.cells v=some (.one v)∧vcl v=some [v]:=by
 rcases H with ⟨rfl,_⟩ | ⟨_,_,_,_,_,rfl,_⟩ <;> exact ⟨rfl,rfl,rfl⟩
set_option maxHeartbeats 1000000 in
theorem rows_loop {τ:Gh} {m c p i0 n0 nR:Nat} {L:List Nat} {M:MM} {o:OneM} {h0:Heap} {kv:V} (I0:TInv τ h0 n0) (H:MapsX τ m c L M) (hO:OneR τ i0 p o) (hF:o.Fine) {hR:Heap} (hsR:Same n0 [] h0 hR) (hn0:n0≤nR) (hK:KeysB n0 nR hR kv (keysO o)) (hB:∀ k∈keysO o,Byt k∧k.length≤16) (h64:(keysO o).length≤64) (hpr:∀ l,o.by_=.progs l→(keysO o).length≤l.length) {Q:X→St→Prop}
  (hQ:∀ t6 t19 h n s,F17_L11110100 (.ptr m 0) (.ptr p 0) t6 kv (.s (.int .i64 ((keysO o).length:Nat))) t19 h n s→nR≤n→RowsB n0 nR n h t6 (rowsO M o (keysO o).length)→Same nR [] hR h→Q (.exit 0) s) :
  ∀ k s,(∃ (i:Nat) (t6:V) (h:Heap) (n:Nat),k=(keysO o).length-i∧i≤(keysO o).length∧F17_L11110100 (.ptr m 0) (.ptr p 0) t6 kv (.s (.int .i64 ((keysO o).length:Nat))) (.s (.int .i64 (i:Nat))) h n s∧nR≤n∧RowsB n0 nR n h t6 (rowsO M o i)∧Same nR [] hR h) →
   LoopK CC none (subC [1,1,1,1,0,1,0,0] (bodyOf Tryz.f17)) s Q:=by
 refine loopH CCok _ ?_
 rintro k s ⟨i,t6,h,n,hk,hi,hs,hn,hR',hsame⟩ hlt
 obtain ⟨g',rfl⟩:=hs
 rw [F17_b11110100]
 replace hlt:∀ b o,h.get b=some o→b<n:=hlt
 have hs0:Same n0 [] h0 h:=fun x hx _=>by rw [hsame x (by omega) (by simp),hsR x hx (by simp)]
 have I:TInv τ h n:=I0.same hs0 (by omega)
 by_cases hi':i<(keysO o).length
 ·have e3:wrapF .i64 ((i:Int)+1)=((i+1:Nat):Int):=by rw [wrapF_i64 (by omega) (by omega)]; rfl
  have hsucc:=rowsO_succ M o i
  obtain ⟨a,vs,hG,ha,hor,hvl,hvs⟩:=hK
  obtain ⟨key,hkey⟩:∃ key,key=(keysO o).getD i []:=⟨_,rfl⟩
  rw [← hkey] at hsucc
  have hki:(keysO o)[i]? = some key:=by rw [hkey,List.getD_eq_getElem?_getD,List.getElem?_eq_getElem hi']; rfl
  obtain ⟨w,b,r1,r2,r3,r4,r5⟩:=hvs i key hki
  have hkB:=hB key (List.mem_of_getElem? hki)
  rcases hG with ⟨_,q2,_⟩ | ⟨oo,cc,op,A,rfl,q2,q3,q4,q5,q6⟩
  ·omega
  have han:a<nR:=by
   rcases hor with h | h
   ·exact h
   ·cases h
  have hga:=(hsame a han (by simp)).trans q3
  have hAi:A[oo+i]? = some w:=by
   have:((A.drop oo).take ((keysO o).length*1))[i]? = some w:=by rw [q6]; exact r1
   rwa [List.getElem?_take_of_lt (by omega),List.getElem?_drop] at this
  have hbw:=r2.of (hsame b r4 (by simp))
  have nw:=norm_bytesAt hbw
  obtain ⟨by_,hp,hby⟩:=hO
  obtain ⟨hpn,pv,hg,hpv⟩:=I p _ hp
  have hpn0:=(I0 p _ hp).1
  obtain ⟨hmn,lv,evv,es,hm,_⟩:=I m _ H.m0
  have hmn0:=(I0 m _ H.m0).1
  simp [hi',blt_dec,cellsAt,hga,hAi,nw.1,hg,byV_norm,by_ne]
  cases hbm:o.by_ with
  | progs l=>
   rw [hbm] at hby
   cases by_ with
   | progs l'=>
    have hll:l'=l:=hby
    subst hll
    have hil:i<l'.length:=by have:=hpr l' hbm; omega
    rcases hpv with ⟨l2,e2,d,o2,c2,op2,A2,es2,rfl,hd,hgd,hA2,c3,c4⟩ | ⟨_,hno⟩
    ·cases e2
     have hx:=num_at hA2 hil
     have eV:valO M o i key=fourF l'[i]:=by unfold valO; rw [hbm]; simp [List.getD_eq_getElem?_getD,hil]
     simp [blt_dec,hil,cellsAt,hgd,hx]
     refine CallK.monoN ?_ (four_ok l'[i] h n)
     rintro _ h4 n4 ⟨rfl,b1,b2,b3⟩ hn4
     simp [nw.2.2]
     refine rowsB_snoc (b:=b) (d:=n) (m:=n4) (r:=(key,valO M o i key)) hR' hlt hn0 hn (by omega) (by simp; omega) (fun x hx=>b3 x hx (by simp)) r3 (by omega) (.inl r4) (hbw.of (b3 b (by omega) (by simp))) (by omega) b1 (.inr (Nat.le_refl _)) (by rw [eV]; exact .inr ⟨0,4,false,_,1,rfl,by simp [cellsAt,b2]; rfl,rfl,rfl⟩) ?_
     intro v' h6 n6 hn6 hK6 hs6
     simp [roundQ]
     exact ⟨(keysO o).length-(i+1),by omega,h6,fun hok b o hb=>⟨o,hb,hok b o hb⟩,i+1,rfl,by omega,v',h6,n6,by rw [e3]; exact F17_L11110100_of,by omega,by rw [hsucc]; exact hK6,fun x hx _=>by rw [hs6 x hx,hsame x hx (by simp)]⟩
    ·exact absurd rfl (hno l')
   | _=>exact hby.elim
  | _=>
   rw [hbm] at hby
   have hO':OneR τ i0 p o:=⟨by_,hp,by rw [hbm]; exact hby⟩
   have eV:valO M o i key=bytesF M.C ((findO o key).getD 0):=by unfold valO; rw [hbm]
   cases by_ <;> first | exact hby.elim | skip
   simp
   refine CallK.monoN ?_ (find_ok false I hO' hF (by omega) hbw hkB.1 (by omega))
   rintro _ h4 n4 ⟨rfl,_,hs4⟩ hn4
   have hs4':=hs4 rfl
   have hm4:=(hs4' m hmn (by simp)).trans hm
   simp [pairV,hm4]
   refine CallK.monoN ?_ (bytesC_ok (I.same hs4' hn4) H.cs ((findO o key).getD 0))
   rintro vb h5 n5 ⟨hvb,hs5⟩ hn5
   obtain ⟨d,hbd,hdd⟩:=hvb.at b
   have nb:=norm_bytesAt hbd
   simp [nw.2.2,nb.2.2]
   refine rowsB_snoc (b:=b) (d:=d) (m:=n5) (r:=(key,valO M o i key)) hR' hlt hn0 hn (by omega) (by simp; omega) (fun x hx=>by rw [hs5 x (by omega) (by simp),hs4' x hx (by simp)]) r3 (by omega) (.inl r4) ((hbw.of (hs4' b (by omega) (by simp))).of (hs5 b (by omega) (by simp))) (by omega) (by omega) (by omega) (by rw [eV]; exact hbd) ?_
   intro v' h6 n6 hn6 hK6 hs6
   simp [roundQ]
   exact ⟨(keysO o).length-(i+1),by omega,h6,fun hok b o hb=>⟨o,hb,hok b o hb⟩,i+1,rfl,by omega,v',h6,n6,by rw [e3]; exact F17_L11110100_of,by omega,by rw [hsucc]; exact hK6,fun x hx _=>by rw [hs6 x hx,hsame x hx (by simp)]⟩
 ·have:i=(keysO o).length:=by omega
  subst this
  simp [roundQ]
  exact hQ _ _ h n _ F17_L11110100_of hn hR' hsame
structure OneM.Tells (o:OneM):Prop where
 len:(keysO o).length≤64
 by_:∀ k∈keysO o,Byt k∧k.length≤16
theorem rows_ok {τ:Gh} {h:Heap} {n m c:Nat} {L:List Nat} {M:MM} (I:TInv τ h n) (H:MapsX τ m c L M) (id:Int) (hT:∀ o,M.at id=some o→o.Tells) :
  CallK CC 17 [.ptr m 0,.s (.int .i64 id)] h n fun v h' n'=>(∃ nR,n≤nR∧RowsB n nR n' h' v (rowsF M id))∧Same n [] h h':=by
 refine F17_call fun hlt=>?_
 rw [F17_eq]
 refine CallK.monoN ?_ (at_ok I H id)
 rintro _ h1 n1 ⟨⟨rfl,hn⟩ | ⟨p,o,rfl,hid,hLp⟩,e1⟩ hn1
 ·obtain rfl:h=h1:=e1.symm
  have eR:rowsF M id=[]:=by unfold rowsF; rw [hn]
  rw [eR]
  simp
  exact ⟨⟨n,Nat.le_refl _,n,[],GrowAt.nil _ _ _,Nat.le_refl _,.inr rfl,rfl,fun i r e=>by simp at e⟩,Same.refl _ _ _⟩
 ·obtain rfl:h=h1:=e1.symm
  have hix:=(MM.at_some hid).2
  have hO:=H.one _ _ _ hLp hix
  have hF:=H.fine o (List.mem_of_getElem? hix)
  have T:=hT o hid
  have eR:rowsF M id=rowsO M o (keysO o).length:=by unfold rowsF; rw [hid]
  rw [eR]
  simp
  refine CallK.monoN ?_ (keys_ok (I.weaken hn1) hO hF T.len)
  rintro kv h2 n2 ⟨hK,hs2⟩ hn2
  have hlen:lenV CC h2 128 kv=some (.s (.int .i64 ((keysO o).length:Nat))):=by
   obtain ⟨a,vs,hG,_⟩:=hK
   rcases hG with ⟨rfl,q2,_⟩ | ⟨oo,cc,op,A,rfl,_⟩
   ·simp [q2]
   ·simp
  simp [hlen]
  have hpr:∀ l,o.by_=.progs l→(keysO o).length≤l.length:=fun l hl=>by
   have hf:=hF.by_
   rw [hl] at hf
   have e:keysO o=foursF o.d.mx.toNat:=by unfold keysO; rw [hl]
   rw [e,foursF_length]; omega
  refine rows_loop (n0:=n1) (nR:=n2) (h0:=h) (I.weaken hn1) H hO hF hs2 hn2 hK T.by_ T.len hpr ?_ _ _ ⟨0,_,h2,n2,rfl,by omega,F17_L11110100_of,Nat.le_refl _,⟨n2,[],GrowAt.nil _ _ _,Nat.le_refl _,.inr rfl,rfl,fun i r e=>by simp [rowsO] at e⟩,Same.refl _ _ _⟩
  intro t6 t19 h3 n3 s hs hn3 hR hs3
  obtain ⟨g',rfl⟩:=hs
  rw [F17_r11110100_0]
  refine ⟨⟨n2,by omega,?_⟩,fun x hx _=>by rw [hs3 x (by omega) (by simp),hs2 x (by omega) (by simp)]⟩
  obtain ⟨a,cs,q1,q2,q3,q4,q5⟩:=hR
  refine ⟨a,cs,q1,q2,q3,q4,fun i r e=>?_⟩
  obtain ⟨w,x,b,d,r1,r2,r3,r4,r5,r6,r7,r8,r9⟩:=q5 i r e
  exact ⟨w,x,b,d,r1,r2,r3,r4,by omega,r6,r7,by omega,r9⟩
end Go.Ev
end
section
namespace Go.Ev
open Proofs
set_option maxRecDepth 20000
@[simp] theorem lenVoid (h:Heap) (a:Addr):lenV CC h 30 (.s (.slice (some a) 0 0))=some (.s (.int .i64 0)):=of_eq (by kernel_rfl)
def ByteArg (h:Heap) (b:Nat) (v:V) (l:List Int):Prop:=BytesAt h b v l∨((∃ a,v=.s (.slice (some a) 0 0))∧l=[])
theorem ByteArg.len {h:Heap} {b:Nat} {v:V} {l:List Int} (H:ByteArg h b v l) (h':Heap):lenV CC h' 30 v=some (.s (.int .i64 l.length)):=by
 rcases H with H | ⟨⟨a,rfl⟩,rfl⟩
 ·exact H.len h'
 ·simp
theorem ByteArg.of {h h':Heap} {b:Nat} {v:V} {l:List Int} (H:ByteArg h b v l) (e:h'.get b=h.get b):ByteArg h' b v l:=by
 rcases H with H | H
 ·exact .inl (H.of e)
 ·exact .inr H
theorem ByteArg.ix {h:Heap} {b:Nat} {v:V} {l:List Int} (H:ByteArg h b v l) {i:Nat} (hi:i<l.length):BytesAt h b v l:=by
 rcases H with H | ⟨_,rfl⟩
 ·exact H
 ·simp at hi
theorem ByteArg.norm {h:Heap} {b:Nat} {v:V} {l:List Int} (H:ByteArg h b v l):normV v=v∧V.cells v=some (.one v):=by
 rcases H with H | ⟨⟨a,rfl⟩,rfl⟩
 ·rcases H with ⟨rfl,_⟩ | ⟨_,_,_,_,_,rfl,_⟩ <;> exact ⟨rfl,rfl⟩
 ·exact ⟨rfl,rfl⟩
theorem oneB_row (h:Heap) (n:Nat) (x:Int):Row (h.set n (.cells (.lst [.s (.int .u8 x)]) 1)) 1 1 (bytesV' [x]) (.slice n 0 1 1 false):=
 .row (A:=[.s (.int .u8 x)]) (es:=1) (by simp [cellsAt,Tree.get_set]) rfl rfl
theorem bytesV_app (l m:List Int):bytesV' (l++m)=bytesV' l++bytesV' m:=by simp [bytesV']
theorem copyB_loop {b:Nat} {sl:V} {l:List Int} (hl:l.length≤140737488351232) {Q:X→St→Prop} {n0:Nat} {h0:Heap} (hb:b<n0) (hs:ByteArg h0 b sl l)
  (hQ:∀ t3 t4 a h n s,F109_L110100 sl t3 t4 h n s→n0≤n→GrowAt h a t3 1 l.length (bytesV' l)→n0≤a→a≤n→(l≠[]→a<n)→Same n0 [] h0 h→Q (.exit 0) s) :
  ∀ m s,(∃ i h n t3 a,m=l.length-i∧i≤l.length∧F109_L110100 sl t3 (.s (.int .i64 i)) h n s∧n0≤n∧GrowAt h a t3 1 i (bytesV' (l.take i))∧n0≤a∧a≤n∧(i≠0→a<n)∧Same n0 [] h0 h) →
   LoopK CC none (subC [1,1,0,1,0,0] (bodyOf Tryz.f109)) s Q:=by
 refine loopH CCok _ ?_
 rintro m s ⟨i,h,n,t3,a,hm,hi,hs',hn,hG,ha0,han,ha,hsame⟩ hlt
 obtain ⟨g,rfl⟩:=hs'
 rw [F109_b110100]
 replace hlt:∀ b o,h.get b=some o→b<n:=hlt
 have hs1:=hs.of (hsame b hb (by simp))
 by_cases hi':i<l.length
 ·have e3:wrapF .i64 ((i:Int)+1)=((i+1:Nat):Int):=by rw [wrapF_i64 (by omega) (by omega)]; rfl
  obtain ⟨p,p1,p2⟩:=(hs1.ix hi').ix hi'
  simp [hs1.len,hi',p1,p2]
  have hG':GrowAt (h.set n (.cells (.lst [.s (.int .u8 l[i])]) 1)) a t3 1 i (bytesV' (l.take i)):=by
   rcases hG with H | ⟨o,c,op,A,k1,k2,k3,k4⟩
   ·exact .inl H
   ·have:=hlt _ _ k3
    exact .inr ⟨o,c,op,A,k1,k2,by rw [Tree.get_set,if_neg (by omega)]; exact k3,k4⟩
  refine grow_ok (m:=1) (new:=bytesV' [l[i]]) (by omega) hG' (oneB_row h n l[i]) (by omega) (by omega) ?_
  intro v' a' h2 n2 ha' han' hn2 hG2 hs2
  refine ⟨l.length-(i+1),h2,by omega,fun hok b o hb=>⟨o,hb,hok b o hb⟩,i+1,rfl,by omega,h2,n2,v',by rw [e3]; exact F109_L110100_of,by omega,a',?_,by omega,by omega,by omega,?_⟩
  ·rw [List.take_succ_eq_append_getElem hi',bytesV_app]
   exact hG2
  ·intro b' hb' hn'
   rw [hs2 b' (by omega) (by omega),Tree.get_set,if_neg (by omega),hsame b' hb' hn']
 ·have:i=l.length:=by omega
  subst this
  simp [hs1.len,roundQ]
  refine hQ t3 _ a h n _ F109_L110100_of hn (by simpa using hG) ha0 han (fun h=>ha (by simpa using h)) hsame
theorem copyB_ok {b:Nat} {sl:V} {l:List Int} (hl:l.length≤140737488351232) {h:Heap} {n:Nat} (hb:b<n) (hs:ByteArg h b sl l) :
  CallK CC 109 [sl] h n fun v h' n'=>(∃ a,n≤a∧a≤n'∧(l≠[]→a<n')∧GrowAt h' a v 1 l.length (bytesV' l))∧Same n [] h h':=by
 refine F109_call fun hlt=>?_
 rw [F109_eq]
 refine copyB_loop hl (n0:=n) (h0:=h) hb hs ?_ _ _ ⟨0,h,n,_,n,rfl,by omega,F109_L110100_of,by omega,GrowAt.nil _ _ _,by omega,by omega,by omega,Same.refl _ _ _⟩
 intro t3 t4 a h' n' s hs hn hG ha han ha' hsame
 obtain ⟨g,rfl⟩:=hs
 rw [F109_r110100_0]
 exact ⟨⟨a,ha,han,ha',hG⟩,hsame⟩
def markN (i:Int):Int:=wrapF .u8 (wrapF .i64 (201+wrapF .i64 (7*i)))
theorem markB_ok (i:Int) (h:Heap) (n:Nat):CallK CC 110 [.s (.int .i64 i)] h n fun v h' n'=>v=.s (.int .u8 (markN i))∧h'=h:=by
 refine F110_call fun hlt=>?_
 rw [F110_eq]
 simp
 rfl
theorem lentB_loop {len:Nat} {l0:List Int} (hl:len≤140737488351232) {Q:X→St→Prop} {n0:Nat} {h0:Heap}
  (hQ:∀ t3 t4 a h n s l2,F51_L110100 t3 t4 h n s→n0≤n→GrowAt h a t3 1 (len+5) (bytesV' l2)→l2.length=len+5→l2.take len=l0→n0≤a→a<n→Same n0 [] h0 h→Q (.exit 0) s) :
  ∀ m s,(∃ i h n t3 a l2,m=5-i∧i≤5∧F51_L110100 t3 (.s (.int .i64 (i:Nat))) h n s∧n0≤n∧GrowAt h a t3 1 (len+i) (bytesV' l2)∧l2.length=len+i∧l2.take len=l0∧n0≤a∧a≤n∧(0<len+i→a<n)∧Same n0 [] h0 h) →
   LoopK CC none (subC [1,1,0,1,0,0] (bodyOf Tryz.f51)) s Q:=by
 refine loopH CCok _ ?_
 rintro m s ⟨i,h,n,t3,a,l2,hm,hi,hs',hn,hG,hl2,htk,ha0,han,ha,hsame⟩ hlt
 obtain ⟨g,rfl⟩:=hs'
 rw [F51_b110100]
 replace hlt:∀ b o,h.get b=some o→b<n:=hlt
 by_cases hi':i<5
 ·have hi'':(i:Int)<5:=by omega
  have e3:wrapF .i64 ((i:Int)+1)=((i+1:Nat):Int):=by rw [wrapF_i64 (by omega) (by omega)]; rfl
  simp [hi'']
  refine CallK.monoN ?_ (markB_ok _ _ _)
  rintro v h1 n1 ⟨rfl,rfl⟩ hn1
  simp
  obtain ⟨a2,b1,b2,hG'⟩:∃ a2,n0≤a2∧a2≤n1∧GrowAt (h1.set n1 (.cells (.lst [.s (.int .u8 (markN i))]) 1)) a2 t3 1 (len+i) (bytesV' l2):=by
   rcases hG with H | ⟨o,c,op,A,k1,k2,k3,k4⟩
   ·exact ⟨n1,by omega,by omega,.inl H⟩
   ·have:=hlt _ _ k3
    exact ⟨a,ha0,by omega,.inr ⟨o,c,op,A,k1,k2,by rw [Tree.get_set,if_neg (by omega)]; exact k3,k4⟩⟩
  refine grow_ok (m:=1) (new:=bytesV' [markN i]) (by omega) hG' (oneB_row h1 n1 _) (by omega) (by omega) ?_
  intro v' a' h2 n2 ha' han' hn2 hG2 hs2
  refine ⟨5-(i+1),h2,by omega,fun hok b o hb=>⟨o,hb,hok b o hb⟩,i+1,rfl,by omega,h2,n2,v',by rw [e3]; exact F51_L110100_of,by omega,a',l2++[markN i],?_,by simp; omega,by rw [List.take_append_of_le_length (by omega)]; exact htk,by omega,by omega,by omega,?_⟩
  ·rw [bytesV_app]; exact hG2
  ·intro b' hb' hn'
   rw [hs2 b' (by omega) (by omega),Tree.get_set,if_neg (by omega),hsame b' hb' hn']
 ·have:i=5:=by omega
  subst this
  simp [roundQ]
  exact hQ t3 _ a h n _ l2 F51_L110100_of hn hG hl2 htk ha0 (ha (by omega)) hsame
def OwnB (h:Heap) (a:Nat) (v:V) (l:List Int):Prop:=∃ o c op A es,v=.slice a o l.length c op∧l.length≤c∧h.get a=some (.cells (.lst A) es)∧o+l.length≤A.length∧(A.drop o).take l.length=bytesV' l
theorem OwnB.at {h:Heap} {a:Nat} {v:V} {l:List Int} (H:OwnB h a v l):BytesAt h a v l:=by
 obtain ⟨o,c,op,A,es,h1,h2,h3,h4,h5⟩:=H
 exact .inr ⟨o,c,op,A,es,h1,by simp [cellsAt,h3],by simpa using h5,by simp⟩
theorem OwnB.of {h h':Heap} {a:Nat} {v:V} {l:List Int} (H:OwnB h a v l) (e:h'.get a=h.get a):OwnB h' a v l:=by
 obtain ⟨o,c,op,A,es,h1,h2,h3,h4⟩:=H
 exact ⟨o,c,op,A,es,h1,h2,by rw [e]; exact h3,h4⟩
theorem lentB_ok {b:Nat} {sl:V} {l:List Int} (hl:l.length≤140737488351232) {h:Heap} {n:Nat} (hb:b<n) (hs:ByteArg h b sl l) :
  CallK CC 51 [sl] h n fun v h' n'=>(∃ a l2,n≤a∧a<n'∧OwnB h' a v l2∧l2.length=l.length+5∧l2.take l.length=l)∧Same n [] h h':=by
 refine F51_call fun hlt=>?_
 rw [F51_eq]
 refine CallK.monoN ?_ (copyB_ok hl hb hs)
 rintro v h1 n1 ⟨⟨a,ha,han,ha',hG⟩,hs1⟩ hn1
 refine lentB_loop (l0:=l) hl (n0:=n) (h0:=h) ?_ _ _ ⟨0,h1,n1,_,a,l,rfl,by omega,F51_L110100_of,by omega,hG,rfl,List.take_of_length_le (Nat.le_refl _),ha,han,fun h=>ha' (by rintro rfl; simp at h),hs1⟩
 intro t3 t4 a h' n' s l2 hs hn hG hl2 htk ha ha' hsame
 obtain ⟨g,rfl⟩:=hs
 rw [F51_r110100_0]
 rcases hG with ⟨_,h0,_⟩ | ⟨o,c,op,A,k1,k2,k3,k4,_,k5⟩
 ·omega
 ·exact ⟨⟨a,l2,ha,ha',⟨o,c,op,A,1,by rw [hl2]; exact k1,by omega,k3,by omega,by rw [hl2]; simpa using k5⟩,hl2,htk⟩,hsame⟩
end Go.Ev
end
section
namespace Go.Ev
open Proofs
set_option maxRecDepth 20000
theorem sameB_loop {a b:Nat} {x y:V} {l m2:List Int} {Q:X→St→Prop} {h0:Heap} (hx:ByteArg h0 a x l) (hy:ByteArg h0 b y m2) (hlm:l.length=m2.length) (hl:l.length≤140737488351232)
  (hQ0:∀ t5 n s,l=m2→F15_L110100 x y t5 h0 n s→Q (.exit 0) s)
  (hQ1:∀ n (L:List V),l≠m2→L[4]? = some (.s (.bool false))→Q .ret ⟨mkTm L,h0,n,[]⟩) :
  ∀ m s,(∃ i n,m=l.length-i∧i≤l.length∧l.take i=m2.take i∧F15_L110100 x y (.s (.int .i64 i)) h0 n s) →
   LoopK CC none (subC [1,1,0,1,0,0] (bodyOf Tryz.f15)) s Q:=by
 refine loopH CCok _ ?_
 rintro m s ⟨i,n,hm,hi,heq,hs⟩ hlt
 obtain ⟨g,rfl⟩:=hs
 rw [F15_b110100]
 by_cases hi':i<l.length
 ·have e3:wrapF .i64 ((i:Int)+1)=((i+1:Nat):Int):=by rw [wrapF_i64 (by omega) (by omega)]; rfl
  have hi2:i<m2.length:=by omega
  obtain ⟨p,p1,p2⟩:=(hx.ix hi').ix hi'
  obtain ⟨q,q1,q2⟩:=(hy.ix hi2).ix hi2
  have ts:l.take (i+1)=l.take i++[l[i]]:=by rw [List.take_add_one,List.getElem?_eq_getElem hi']; rfl
  have ts2:m2.take (i+1)=m2.take i++[m2[i]]:=by rw [List.take_add_one,List.getElem?_eq_getElem hi2]; rfl
  simp [hx.len,hi',p1,p2,q1,q2]
  by_cases he:l[i]=m2[i]
  ·simp [he,roundQ]
   exact ⟨l.length-(i+1),by omega,h0,fun hok b o hb=>⟨o,hb,hok b o hb⟩,i+1,rfl,by omega,by rw [ts,ts2,heq,he],_,by rw [e3]; exact F15_L110100_of⟩
  ·simp [he,roundQ]
   exact hQ1 _ _ (by rintro rfl; exact he rfl) rfl
 ·have:i=l.length:=by omega
  subst this
  rw [List.take_of_length_le (Nat.le_refl _),List.take_of_length_le (by omega)] at heq
  simp [hx.len,roundQ]
  exact hQ0 _ n _ heq F15_L110100_of
theorem sameB_ok {a b:Nat} {x y:V} {l m2:List Int} {h:Heap} {n:Nat} (hx:ByteArg h a x l) (hy:ByteArg h b y m2) (hl:l.length≤140737488351232) :
  CallK CC 15 [x,y] h n fun v h' n'=>v=.s (.bool (decide (l=m2)))∧h'=h:=by
 refine F15_call fun hlt=>?_
 rw [F15_eq]
 simp [hx.len,hy.len]
 by_cases hlm:l.length=m2.length
 ·simp [hlm]
  rw [← hlm]
  refine sameB_loop hx hy hlm hl ?_ ?_ _ _ ⟨0,n,rfl,by omega,rfl,F15_L110100_of⟩
  ·intro t5 n' s he hs
   obtain ⟨g,rfl⟩:=hs
   rw [F15_r110100_0]
   exact ⟨by simp [he],rfl⟩
  ·intro n' L hne hL
   simp [resume,retW,dropDefs,hL,hne]
 ·have:¬ (l.length:Int)=(m2.length:Int):=by omega
  have hne:l≠m2:=by rintro rfl; exact hlm rfl
  simp [this,hne]
theorem keptB_loop {a b:Nat} {x y:V} {l l2:List Int} {Q:X→St→Prop} {h0:Heap} (hx:BytesAt h0 a x l2) (hy:ByteArg h0 b y l) (hll:l2.length=l.length+5) (hl:l.length≤140737488351232)
  (hQ0:∀ t5 n s,F54_L110100 x y t5 h0 n s→Q (.exit 0) s)
  (hQ1:∀ n (L:List V),L[4]? = some (.s (.bool false))→Q .ret ⟨mkTm L,h0,n,[]⟩) :
  ∀ m s,(∃ i n,m=5-i∧i≤5∧F54_L110100 x y (.s (.int .i64 (i:Nat))) h0 n s) →
   LoopK CC none (subC [1,1,0,1,0,0] (bodyOf Tryz.f54)) s Q:=by
 refine loopH CCok _ ?_
 rintro m s ⟨i,n,hm,hi,hs⟩ hlt
 obtain ⟨g,rfl⟩:=hs
 rw [F54_b110100]
 by_cases hi':i<5
 ·have hi'':(i:Int)<5:=by omega
  have e3:wrapF .i64 ((i:Int)+1)=((i+1:Nat):Int):=by rw [wrapF_i64 (by omega) (by omega)]; rfl
  obtain ⟨j,hj⟩:∃ j:Nat,j=l.length+i:=⟨_,rfl⟩
  have e4:wrapF .i64 ((l.length:Int)+(i:Int))=(j:Int):=by rw [wrapF_i64 (by omega) (by omega)]; omega
  obtain ⟨p,p1,p2⟩:=hx.ix (show j<l2.length by omega)
  simp [hy.len,hi'',e4,p1,p2]
  refine CallK.monoN ?_ (markB_ok _ _ _)
  rintro v h1 n1 ⟨rfl,rfl⟩ hn1
  simp [p2]
  by_cases he:l2[j]=markN i
  ·simp [he,roundQ]
   exact ⟨5-(i+1),by omega,h1,fun hok b o hb=>⟨o,hb,hok b o hb⟩,i+1,rfl,by omega,_,by rw [e3]; exact F54_L110100_of⟩
  ·simp [he,roundQ]
   exact hQ1 _ _ rfl
 ·have:i=5:=by omega
  subst this
  simp [roundQ]
  exact hQ0 _ n _ F54_L110100_of
theorem keptB_ok {a b:Nat} {x y:V} {l l2:List Int} {h:Heap} {n:Nat} (hx:OwnB h a x l2) (hy:ByteArg h b y l) (hll:l2.length=l.length+5) (hl:l.length≤140737488351232) :
  CallK CC 54 [x,y] h n fun v h' n'=>(∃ t,v=.s (.bool t))∧h'=h:=by
 refine F54_call fun hlt=>?_
 rw [F54_eq]
 have hxa:=hx.at
 obtain ⟨o,c,op,A,es,rfl,hc,hg,hA,hcs⟩:=hx
 have e1:wrapF .i64 ((l.length:Int)+5)=(l2.length:Int):=by rw [wrapF_i64 (by omega) (by omega)]; omega
 simp [hy.len,e1,bounds,bound,ble_dec,show l.length≤c by omega]
 have hx2:BytesAt h a (.slice a o l.length c op) (l2.take l.length):=by
  refine .inr ⟨o,c,op,A,es,by simp; omega,by simp [cellsAt,hg],?_,by simp⟩
  have e:(l2.take l.length).length=l.length:=by simp; omega
  rw [e,Nat.mul_one]
  have:(A.drop o).take l.length=((A.drop o).take l2.length).take l.length:=by rw [List.take_take]; congr 1; omega
  rw [this,hcs]; simp [bytesV',List.map_take]
 refine CallK.monoN ?_ (sameB_ok (.inl hx2) hy (by simp; omega))
 rintro _ h1 n1 ⟨rfl,rfl⟩ hn1
 generalize decide (List.take l.length l2=l)=t
 cases t with
 | false=>simp
 | true=>
  simp
  refine keptB_loop hxa hy hll hl ?_ ?_ _ _ ⟨0,n1,rfl,by omega,F54_L110100_of⟩
  ·intro t5 n' s hs
   obtain ⟨g,rfl⟩:=hs
   rw [F54_r110100_0]
   exact ⟨.inr rfl,rfl⟩
  ·intro n' L hL
   simp [resume,retW,dropDefs,hL]
theorem OwnB.put {a o c es:Nat} {op:Bool} {A:List V} {l:List Int} {i:Nat} {y:Int} (hi:i<l.length) (hc:l.length≤c) (hA:o+l.length≤A.length) (h5:(A.drop o).take l.length=bytesV' l) {h':Heap} (hg:h'.get a=some (.cells (.lst (splice A (o+i) [.s (.int .u8 y)])) es)) :
  OwnB h' a (.slice a o l.length c op) (l.set i y):=by
 refine ⟨o,c,op,_,es,by simp,by simpa using hc,hg,by rw [splice_len (by simp; omega)]; simpa using hA,?_⟩
 apply List.ext_getElem?
 intro j
 rw [List.length_set]
 by_cases hj:j<l.length
 ·have hAj:A[o+j]? = some (.s (.int .u8 l[j])):=by
   have:((A.drop o).take l.length)[j]? = some (.s (.int .u8 l[j])):=by rw [h5]; exact bytes_at hj
   rwa [List.getElem?_take_of_lt hj,List.getElem?_drop] at this
  rw [List.getElem?_take_of_lt hj,List.getElem?_drop,splice_get (by simp; omega),bytes_at (by simpa using hj),List.getElem_set]
  by_cases hij:i=j
  ·subst hij; simp
  ·rw [if_neg (by simp; omega),if_neg hij,hAj]
 ·rw [List.getElem?_eq_none (by simp; omega),List.getElem?_eq_none (by simp; omega)]
theorem spoil_loop {a o c:Nat} {op:Bool} {len:Nat} (hl:len≤140737488361232) {Q:X→St→Prop} {n0:Nat} {h0:Heap}
  (hQ:∀ h n s t2,F55_L100 (.slice a o len c op) t2 h n s→n0≤n→Same n0 [a] h0 h→Q (.exit 0) s) :
  ∀ m s,(∃ i h n l,m=len-i∧i≤len∧F55_L100 (.slice a o len c op) (.s (.int .i64 (i:Nat))) h n s∧n0≤n∧Same n0 [a] h0 h∧OwnB h a (.slice a o len c op) l∧l.length=len) →
   LoopK CC none (subC [1,0,0] (bodyOf Tryz.f55)) s Q:=by
 refine loopH CCok _ ?_
 rintro m s ⟨i,h,n,l,hm,hi,hs,hn,hsame,hw,hlen⟩ hlt
 obtain ⟨g,rfl⟩:=hs
 rw [F55_b100]
 by_cases hi':i<len
 ·have e3:wrapF .i64 ((i:Int)+1)=((i+1:Nat):Int):=by rw [wrapF_i64 (by omega) (by omega)]; rfl
  simp [hi']
  refine CallK.monoN ?_ (markB_ok _ _ _)
  rintro v h1 n1 ⟨rfl,rfl⟩ hn1
  obtain ⟨o',c',op',A,es,he,hc,hg,hA,h5⟩:=hw
  cases he
  generalize hy:markN _=y
  have e6:storeCells h1 a (o+i) (.one (.s (.int .u8 y)))=some (h1.set a (.cells (.lst (splice A (o+i) [.s (.int .u8 y)])) es)):=storeCells_lst hg (by show o+i+1≤A.length; omega)
  simp [hi',blt_dec,e6,roundQ]
  have hw':OwnB (h1.set a (.cells (.lst (splice A (o+i) [.s (.int .u8 y)])) es)) a (.slice a o l.length c op) (l.set i y):=OwnB.put (by omega) hc hA h5 (by rw [Tree.get_set,if_pos rfl])
  exact ⟨l.length-(i+1),by omega,h1.set a (.cells (.lst (splice A (o+i) [.s (.int .u8 y)])) es),fun hok b o hb=>⟨o,hb,hok b o hb⟩,i+1,rfl,by omega,_,_,by rw [e3]; exact F55_L100_of,by omega,fun b hb hf=>by rw [Tree.get_set,if_neg (by simpa using hf),hsame b hb hf],_,hw',by simp⟩
 ·have:i=len:=by omega
  subst this
  simp [roundQ]
  exact hQ h n _ _ F55_L100_of hn hsame
theorem spoilB_ok {a:Nat} {x:V} {l:List Int} (hl:l.length≤140737488361232) {h:Heap} {n:Nat} (hw:OwnB h a x l) :
  CallK CC 55 [x] h n fun v h' n'=>Same n [a] h h':=by
 refine F55_call fun hlt=>?_
 rw [F55_eq]
 have hw0:=hw
 obtain ⟨o,c,op,A,es,rfl,hc,hg,hA,h5⟩:=hw
 refine spoil_loop hl (n0:=n) (h0:=h) ?_ _ _ ⟨0,h,n,l,rfl,by omega,F55_L100_of,Nat.le_refl _,Same.refl _ _ _,hw0,rfl⟩
 intro h' n' s t2 hs hn hsame
 obtain ⟨g,rfl⟩:=hs
 rw [F55_r100_0]
 exact hsame
end Go.Ev
end
section
namespace Go.Ev
open Proofs
set_option maxRecDepth 20000
def opL (kind id N prog cell size v dk dkey dval dmax:Int) (kv dv:V):List V:=[.s (.int .i64 kind),.s (.int .i64 id),.s (.int .i64 N),.s (.int .i64 prog),.s (.int .i64 cell),.s (.int .i64 size),.s (.int .u64 v),.s (.int .i64 dk),.s (.int .i64 dkey),.s (.int .i64 dval),.s (.int .i64 dmax),kv,dv]
theorem OwnB.pre {h:Heap} {a o c:Nat} {op:Bool} {l2:List Int} (H:OwnB h a (.slice a o l2.length c op) l2) {k:Nat} (hk:k≤l2.length):BytesAt h a (.slice a o k c op) (l2.take k)∧k≤c:=by
 obtain ⟨o',c',op',A,es,e,hc,hg,hA,hcs⟩:=H
 cases e
 refine ⟨.inr ⟨o,c,op,A,es,by simp; omega,by simp [cellsAt,hg],?_,by simp⟩,by omega⟩
 have e:(l2.take k).length=k:=by simp; omega
 rw [e,Nat.mul_one]
 have:(A.drop o).take k=((A.drop o).take l2.length).take k:=by rw [List.take_take]; congr 1; omega
 rw [this,hcs]; simp [bytesV',List.map_take]
structure OpR where
 kind:Int
 id:Int
 n:Int
 prog:Int
 cell:Int
 size:Int
 v:Int
 d:DeclR
 key:List Int
 data:List Int
abbrev opR (kind id N prog cell size w dk dkey dval dmax:Int) (k v:List Int):OpR:=⟨kind,id,N,prog,cell,size,w,⟨dk,dkey,dval,dmax⟩,k,v⟩
open Classical in
noncomputable def doF (M:MM) (o:OpR):MM×Int:=
 if o.kind=0 then ((createF M o.d).1,(createF M o.d).2.2)
 else if o.kind=1 then ((match M.at o.id with | some x=>M.setO o.id (useO x o.key) | none=>M),0)
 else if o.kind=2 then (M,0)
 else if o.kind=3 then updateF M o.id o.key o.data
 else if o.kind=4 then deleteF M o.id o.key
 else if o.kind=5 then setProgF M o.id o.n o.prog
 else if o.kind=6 then ((if InC M.C o.cell o.n o.size then ({ M with C:=storeF M.C o.cell o.n o.size o.v }:MM).note ⟨2,0,0,o.cell,[]⟩ else M),0)
 else if o.kind=7 then (tickF M o.n,0)
 else if o.kind=8 then (sweepF M,0)
 else (M,0)
def RetP (E:Int) (r:V):Prop:=∃ (a:Int) (b:Bool) (e:Int),r=.tup [.s (.int .i64 a),.s (.bool b),.s (.int .i64 e)]∧(e=E∨e=-77)
theorem RetP.ok (a:Int) (b:Bool) (E:Int):RetP E (.tup [.s (.int .i64 a),.s (.bool b),.s (.int .i64 E)]):=⟨a,b,E,rfl,.inl rfl⟩
theorem RetP.bad (a:Int) (b:Bool) (E:Int):RetP E (.tup [.s (.int .i64 a),.s (.bool b),.s (.int .i64 (-77))]):=⟨a,b,_,rfl,.inr rfl⟩
def DoP (τ:Gh) (h:Heap) (n m c:Nat) (W:MM×Int) (r:V) (h':Heap) (n':Nat):Prop:=
 RetP W.2 r∧Goes anyFp τ n h h' n' fun τ'=>∃ L',MapsX τ' m c L' W.1
theorem do_fin {τ:Gh} {h h12 h5 h8:Heap} {n n13 n5 n8 a1 a2:Nat} {P:Gh→Prop} (I:TInv τ h n) (s12:Same n [] h h12) (hn:n≤n13) (b1:n≤a1) (b1':a1<n13) (b2:n≤a2) (b2':a2<n13)
  (G:Goes anyFp τ n13 h12 h5 n5 P) (hn13:n13≤n5) (hn5:n5≤n8) (s8:∀ x,x<n5→x≠a1→x≠a2→h8.get x=h5.get x):Goes anyFp τ n h h8 n8 P:=by
 obtain ⟨τ',I',K',p⟩:=G
 have t1:=(K'.non a1 b1' (I.none b1)).1
 have t2:=(K'.non a2 b2' (I.none b2)).1
 refine ⟨τ',I'.of hn5 fun x hx ht=>s8 x hx (by rintro rfl; exact ht t1) (by rintro rfl; exact ht t2),⟨fun b k hb e hf=>K'.ty b k (by omega) e hf,fun x hx e=>?_,fun b k x _ _ _ _ hf _=>absurd trivial hf⟩,p⟩
 have:=K'.non x (by omega) e
 exact ⟨this.1,by rw [s8 x (by omega) (by omega) (by omega),this.2,s12 x hx (by simp)]⟩
set_option maxHeartbeats 1000000 in
theorem do_ok {τ:Gh} {h:Heap} {n m c kb vb:Nat} {L:List Nat} {M:MM} {ks vs:V} {k v:List Int} (kind id N prog cell size w dk dkey dval dmax:Int) (I:TInv τ h n) (H:MapsX τ m c L M) (hne:M.ev.length+1≤1000000000) (hla:M.last≤8796093022208)
  (kbn:kb<n) (kbt:τ kb=none) (hks:ByteArg h kb ks k) (hkB:Byt k) (hk:k.length≤140737488351232) (vbn:vb<n) (vbt:τ vb=none) (hvs:ByteArg h vb vs v) (hvB:Byt v) (hv:v.length≤140737488351232) :
  CallK CC 14 [.ptr m 0,.agg (.lst (opL kind id N prog cell size w dk dkey dval dmax ks vs))] h n fun r h' n'=>DoP τ h n m c (doF M (opR kind id N prog cell size w dk dkey dval dmax k v)) r h' n':=by
 refine F14_call fun hlt=>?_
 rw [F14_eq]
 have hsm:Same n [] h (h.set n (.cells (.lst (opL kind id N prog cell size w dk dkey dval dmax ks vs)) 13)):=Same.new _ _ _ _
 have gb:(h.set n (.cells (.lst (opL kind id N prog cell size w dk dkey dval dmax ks vs)) 13)).get n=some (.cells (.lst (opL kind id N prog cell size w dk dkey dval dmax ks vs)) 13):=by rw [Tree.get_set,if_pos rfl]
 simp only [cells_agg,oK_some,Rope.toList_lst]
 generalize (h.set n (.cells (.lst (opL kind id N prog cell size w dk dkey dval dmax ks vs)) 13))=h1 at hsm gb ⊢
 have mn:=(I m _ H.m0).1
 have kn:=hks.norm.1
 have vn:=hvs.norm.1
 simp [cellsAt,gb,opL,kn]
 refine CallK.monoN ?_ (lentB_ok hk (show kb<n+1 by omega) (hks.of (hsm kb kbn (by simp))))
 rintro kv2 h2 n2 ⟨⟨a1,l1,b1,b1',w1,len1,tk1⟩,hs2⟩ hn2
 have gb2:=(hs2 n (by omega) (by simp)).trans gb
 unfold opL at gb2
 simp [gb2,vn]
 refine CallK.monoN ?_ (lentB_ok hv (show vb<n2 by omega) ((hvs.of (hsm vb vbn (by simp))).of (hs2 vb (by omega) (by simp))))
 rintro dv2 h3 n3 ⟨⟨a2,l2,b2,b2',w2,len2,tk2⟩,hs3⟩ hn3
 have gb3:=(hs3 n (by omega) (by simp)).trans gb2
 have s3:Same n [] h h3:=fun x hx _=>by rw [hs3 x (by omega) (by simp),hs2 x (by omega) (by simp),hsm x hx (by simp)]
 have w1':=w1.of (hs3 a1 b1' (by simp))
 have I3:TInv τ h3 n3:=I.same s3 (by omega)
 have hks3:=hks.of (s3 kb kbn (by simp))
 have hvs3:=hvs.of (s3 vb vbn (by simp))
 have hk1:=w1'
 have hv1:=w2
 obtain ⟨o1,c1,op1,A1,es1,rfl,-,-,-,-⟩:=w1'
 obtain ⟨o2,c2,op2,A2,es2,rfl,-,-,-,-⟩:=w2
 obtain ⟨kB,kC⟩:=hk1.pre (k:=k.length) (by omega)
 obtain ⟨vB,vC⟩:=hv1.pre (k:=v.length) (by omega)
 rw [tk1] at kB
 rw [tk2] at vB
 have t1:τ a1=none:=I.none (by omega)
 have t2:τ a2=none:=I.none (by omega)
 have tn:τ n=none:=I.none (Nat.le_refl _)
 have capV:CapOk (.slice a2 o2 v.length c2 op2):=by intro b o l c p e; cases e; omega
 have tail:∀ (h5:Heap) (n4 n5:Nat) (M':MM),n3≤n4→n4≤n5→Goes anyFp τ n4 h3 h5 n5 (fun τ'=>∃ L',MapsX τ' m c L' M') →
   h5.get n=h3.get n∧CallK CC 54 [.slice a1 o1 l1.length c1 op1,ks] h5 n5 (fun v h' n'=>h'=h5∧((v=.s (.bool false)∧Goes anyFp τ n h h' n' (fun τ'=>∃ L',MapsX τ' m c L' M'))∨(v=.s (.bool true) ∧
    CallK CC 54 [.slice a2 o2 l2.length c2 op2,vs] h' n' (fun v h' n'=>(v=.s (.bool false)∧Goes anyFp τ n h h' n' (fun τ'=>∃ L',MapsX τ' m c L' M'))∨(v=.s (.bool true) ∧
     CallK CC 55 [.slice a1 o1 l1.length c1 op1] h' n' (fun _ h' n'=>CallK CC 55 [.slice a2 o2 l2.length c2 op2] h' n' (fun _ h' n'=>Goes anyFp τ n h h' n' (fun τ'=>∃ L',MapsX τ' m c L' M')))))))):=by
  intro h5 n4 n5 M' hn4 hn5 G
  have gx:∀ x,x<n3→τ x=none→h5.get x=h3.get x:=by
   intro x hx hxt
   obtain ⟨τ',g1,g2,g3⟩:=G
   exact (g2.non x (by omega) hxt).2
  have fin:=fun h8 n8 (hn8:n5≤n8) s8=>do_fin (h8:=h8) (n8:=n8) I s3 (show n≤n4 by omega) (show n≤a1 by omega) (show a1<n4 by omega) (show n≤a2 by omega) (show a2<n4 by omega) G hn5 hn8 s8
  have ek:h5.get kb=h3.get kb:=gx kb (by omega) kbt
  have ev':h5.get vb=h3.get vb:=gx vb (by omega) vbt
  have e1:h5.get a1=h3.get a1:=gx a1 (by omega) t1
  have e2:h5.get a2=h3.get a2:=gx a2 (by omega) t2
  refine ⟨gx n (by omega) tn,?_⟩
  refine CallK.monoN ?_ (keptB_ok (hk1.of e1) (hks3.of ek) len1 hk)
  rintro _ h6 n6 ⟨⟨t,rfl⟩,e6⟩ hn6
  obtain rfl:h5=h6:=e6.symm
  refine ⟨rfl,?_⟩
  cases t with
  | false=>exact .inl ⟨rfl,fin h5 n6 hn6 fun _ _ _ _=>rfl⟩
  | true=>
   refine .inr ⟨rfl,?_⟩
   refine CallK.monoN ?_ (keptB_ok (hv1.of e2) (hvs3.of ev') len2 hv)
   rintro _ h6 n7 ⟨⟨t,rfl⟩,e6⟩ hn7
   obtain rfl:h5=h6:=e6.symm
   cases t with
   | false=>exact .inl ⟨rfl,fin h5 n7 (by omega) fun _ _ _ _=>rfl⟩
   | true=>
    refine .inr ⟨rfl,?_⟩
    refine CallK.monoN ?_ (spoilB_ok (by omega) (hk1.of e1))
    intro _ h7 n8 hs7 hn8
    have e2':h7.get a2=h3.get a2:=(hs7 a2 (by omega) (by simp; omega)).trans e2
    refine CallK.monoN ?_ (spoilB_ok (by omega) (hv1.of e2'))
    intro _ h8 n9 hs8 hn9
    exact fin h8 n9 (by omega) fun x hx x1 x2=>by rw [hs8 x (by omega) (by simpa using x2),hs7 x (by omega) (by simpa using x1)]
 have K3:∀ x,n3≤x→TInv τ h3 x:=fun x hx=>I3.weaken hx
 have lift:∀ {h5:Heap} {n4 n5:Nat} {M':MM},Goes anyFp τ n4 h3 h5 n5 (fun τ'=>MapsX τ' m c L M')→Goes anyFp τ n4 h3 h5 n5 (fun τ'=>∃ L',MapsX τ' m c L' M'):=fun G=>G.imp (fun _ _ _ h=>h) fun t ht=>⟨L,ht⟩
 unfold DoP
 by_cases c0:kind=0
 ·have eD:doF M (opR kind id N prog cell size w dk dkey dval dmax k v)=((createF M ⟨dk,dkey,dval,dmax⟩).1,(createF M ⟨dk,dkey,dval,dmax⟩).2.2):=by simp only [doF];  rw [if_pos c0]
  rw [eD]
  simp [c0,gb3,ble_dec]
  refine CallK.monoN ?_ (create_ok I3 H (by omega) dk dkey dval dmax)
  rintro _ h5 n5 ⟨rfl,G⟩ hn5
  obtain ⟨gb5,T⟩:=tail h5 (n3) n5 _ (by omega) hn5 G
  rw [gb3] at gb5
  simp [gb5,kn]
  refine CallK.monoN ?_ T
  rintro _ h6 n6 ⟨rfl,⟨rfl,F⟩ | ⟨rfl,T2⟩⟩ hn6
  ·simp; exact ⟨RetP.bad _ _ _,F⟩
  ·simp [gb5,vn,cellsAt]
   refine CallK.monoN ?_ T2
   rintro _ h7 n7 (⟨rfl,F⟩ | ⟨rfl,T3⟩) hn7
   ·simp; exact ⟨RetP.bad _ _ _,F⟩
   ·simp
    refine CallK.monoN ?_ T3
    intro _ h8 n8 T4 hn8
    refine CallK.monoN ?_ T4
    intro _ h9 n9 F hn9
    exact ⟨RetP.ok _ _ _,F⟩
 by_cases c1:kind=1
 ·have eD:doF M (opR kind id N prog cell size w dk dkey dval dmax k v)=((match M.at id with | some x=>M.setO id (useO x k) | none=>M),0):=by simp only [doF]; rw [if_neg c0]; rw [if_pos c1]
  rw [eD]
  simp [c1,gb3,ble_dec,hks3.len,kn,bounds,bound,kC]
  refine CallK.monoN ?_ (mFind_ok (K3 (n3+14) (by omega)) H id (by omega) kB hkB (by omega))
  rintro _ h5 n5 ⟨rfl,G⟩ hn5
  obtain ⟨gb5,T⟩:=tail h5 (n3+14) n5 _ (by omega) hn5 (lift G)
  rw [gb3] at gb5
  simp [gb5,kn,pairV]
  refine CallK.monoN ?_ T
  rintro _ h6 n6 ⟨rfl,⟨rfl,F⟩ | ⟨rfl,T2⟩⟩ hn6
  ·simp; exact ⟨RetP.bad _ _ _,F⟩
  ·simp [gb5,vn,cellsAt]
   refine CallK.monoN ?_ T2
   rintro _ h7 n7 (⟨rfl,F⟩ | ⟨rfl,T3⟩) hn7
   ·simp; exact ⟨RetP.bad _ _ _,F⟩
   ·simp
    refine CallK.monoN ?_ T3
    intro _ h8 n8 T4 hn8
    refine CallK.monoN ?_ T4
    intro _ h9 n9 F hn9
    exact ⟨RetP.ok _ _ _,F⟩
 by_cases c2:kind=2
 ·have eD:doF M (opR kind id N prog cell size w dk dkey dval dmax k v)=(M,0):=by simp only [doF]; rw [if_neg c0]; rw [if_neg c1]; rw [if_pos c2]
  rw [eD]
  simp [c2,gb3,ble_dec,hks3.len,kn,bounds,bound,kC]
  refine CallK.monoN ?_ (mPeek_ok (K3 (n3+14) (by omega)) H id (by omega) kB hkB (by omega))
  rintro _ h5 n5 ⟨rfl,hs5⟩ hn5
  obtain ⟨gb5,T⟩:=tail h5 (n3+14) n5 _ (by omega) hn5 ⟨τ,(K3 _ (by omega)).same hs5 hn5,Keep.of_same hs5,L,H⟩
  rw [gb3] at gb5
  simp [gb5,kn,pairV]
  refine CallK.monoN ?_ T
  rintro _ h6 n6 ⟨rfl,⟨rfl,F⟩ | ⟨rfl,T2⟩⟩ hn6
  ·simp; exact ⟨RetP.bad _ _ _,F⟩
  ·simp [gb5,vn,cellsAt]
   refine CallK.monoN ?_ T2
   rintro _ h7 n7 (⟨rfl,F⟩ | ⟨rfl,T3⟩) hn7
   ·simp; exact ⟨RetP.bad _ _ _,F⟩
   ·simp
    refine CallK.monoN ?_ T3
    intro _ h8 n8 T4 hn8
    refine CallK.monoN ?_ T4
    intro _ h9 n9 F hn9
    exact ⟨RetP.ok _ _ _,F⟩
 by_cases c3:kind=3
 ·have eD:doF M (opR kind id N prog cell size w dk dkey dval dmax k v)=updateF M id k v:=by simp only [doF]; rw [if_neg c0]; rw [if_neg c1]; rw [if_neg c2]; rw [if_pos c3]
  rw [eD]
  simp [c3,gb3,ble_dec,hks3.len,hvs3.len,kn,vn,bounds,bound,kC,vC]
  refine CallK.monoN ?_ (update_ok (K3 (n3+15) (by omega)) H hne (by omega) id (by omega) t1 kB hkB (by omega) (by omega) t2 vB capV hvB (by omega))
  rintro _ h5 n5 ⟨rfl,G⟩ hn5
  obtain ⟨gb5,T⟩:=tail h5 (n3+15) n5 _ (by omega) hn5 (lift G)
  rw [gb3] at gb5
  simp [gb5,kn]
  refine CallK.monoN ?_ T
  rintro _ h6 n6 ⟨rfl,⟨rfl,F⟩ | ⟨rfl,T2⟩⟩ hn6
  ·simp; exact ⟨RetP.bad _ _ _,F⟩
  ·simp [gb5,vn,cellsAt]
   refine CallK.monoN ?_ T2
   rintro _ h7 n7 (⟨rfl,F⟩ | ⟨rfl,T3⟩) hn7
   ·simp; exact ⟨RetP.bad _ _ _,F⟩
   ·simp
    refine CallK.monoN ?_ T3
    intro _ h8 n8 T4 hn8
    refine CallK.monoN ?_ T4
    intro _ h9 n9 F hn9
    exact ⟨RetP.ok _ _ _,F⟩
 by_cases c4:kind=4
 ·have eD:doF M (opR kind id N prog cell size w dk dkey dval dmax k v)=deleteF M id k:=by simp only [doF]; rw [if_neg c0]; rw [if_neg c1]; rw [if_neg c2]; rw [if_neg c3]; rw [if_pos c4]
  rw [eD]
  simp [c4,gb3,ble_dec,hks3.len,kn,bounds,bound,kC]
  refine CallK.monoN ?_ (deleteM_ok (K3 (n3+10) (by omega)) H (by omega) id (by omega) t1 kB hkB (by omega))
  rintro _ h5 n5 ⟨rfl,G⟩ hn5
  obtain ⟨gb5,T⟩:=tail h5 (n3+10) n5 _ (by omega) hn5 (lift G)
  rw [gb3] at gb5
  simp [gb5,kn]
  refine CallK.monoN ?_ T
  rintro _ h6 n6 ⟨rfl,⟨rfl,F⟩ | ⟨rfl,T2⟩⟩ hn6
  ·simp; exact ⟨RetP.bad _ _ _,F⟩
  ·simp [gb5,vn,cellsAt]
   refine CallK.monoN ?_ T2
   rintro _ h7 n7 (⟨rfl,F⟩ | ⟨rfl,T3⟩) hn7
   ·simp; exact ⟨RetP.bad _ _ _,F⟩
   ·simp
    refine CallK.monoN ?_ T3
    intro _ h8 n8 T4 hn8
    refine CallK.monoN ?_ T4
    intro _ h9 n9 F hn9
    exact ⟨RetP.ok _ _ _,F⟩
 by_cases c5:kind=5
 ·have eD:doF M (opR kind id N prog cell size w dk dkey dval dmax k v)=setProgF M id N prog:=by simp only [doF]; rw [if_neg c0]; rw [if_neg c1]; rw [if_neg c2]; rw [if_neg c3]; rw [if_neg c4]; rw [if_pos c5]
  rw [eD]
  simp [c5,gb3]
  refine CallK.monoN ?_ (setProg_ok I3 H (by omega) id N prog)
  rintro _ h5 n5 ⟨rfl,G⟩ hn5
  obtain ⟨gb5,T⟩:=tail h5 (n3) n5 _ (by omega) hn5 (lift G)
  rw [gb3] at gb5
  simp [gb5,kn]
  refine CallK.monoN ?_ T
  rintro _ h6 n6 ⟨rfl,⟨rfl,F⟩ | ⟨rfl,T2⟩⟩ hn6
  ·simp; exact ⟨RetP.bad _ _ _,F⟩
  ·simp [gb5,vn,cellsAt]
   refine CallK.monoN ?_ T2
   rintro _ h7 n7 (⟨rfl,F⟩ | ⟨rfl,T3⟩) hn7
   ·simp; exact ⟨RetP.bad _ _ _,F⟩
   ·simp
    refine CallK.monoN ?_ T3
    intro _ h8 n8 T4 hn8
    refine CallK.monoN ?_ T4
    intro _ h9 n9 F hn9
    exact ⟨RetP.ok _ _ _,F⟩
 by_cases c6:kind=6
 ·obtain ⟨W,hW⟩:∃ W,W=doF M (opR kind id N prog cell size w dk dkey dval dmax k v):=⟨_,rfl⟩
  have eD:W=((doF M (opR kind id N prog cell size w dk dkey dval dmax k v)).1,0):=by rw [hW]; simp only [doF]; rw [if_neg c0]; rw [if_neg c1]; rw [if_neg c2]; rw [if_neg c3]; rw [if_neg c4]; rw [if_neg c5]; rw [if_pos c6]
  have eI:InC M.C cell N size→W.1=({ M with C:=storeF M.C cell N size w }:MM).note ⟨2,0,0,cell,[]⟩:=fun hi=>by rw [hW]; simp only [doF]; rw [if_neg c0,if_neg c1,if_neg c2,if_neg c3,if_neg c4,if_neg c5,if_pos c6,if_pos hi]
  have eN:¬ InC M.C cell N size→W.1=M:=fun hi=>by rw [hW]; simp only [doF]; rw [if_neg c0,if_neg c1,if_neg c2,if_neg c3,if_neg c4,if_neg c5,if_pos c6,if_neg hi]
  have eE:W.2=0:=by rw [eD]
  rw [← hW]
  clear eD hW
  simp [c6,gb3]
  refine CallK.monoN ?_ (mStore_ok I3 H (by omega) cell N size w)
  rintro r h5 n5 ⟨τ5,I5,K5,hr⟩ hn5
  have hG:∃ b,r=.s (.bool b)∧MapsX τ5 m c L W.1:=by
   rcases hr with ⟨rfl,hno,R⟩ | ⟨rfl,hyes,R⟩
   ·exact ⟨false,rfl,by rw [eN hno]; exact R⟩
   ·exact ⟨true,rfl,by rw [eI hyes]; exact R⟩
  obtain ⟨b,rfl,HG⟩:=hG
  obtain ⟨gb5,T⟩:=tail h5 (n3) n5 W.1 (by omega) hn5 ⟨τ5,I5,K5,L,HG⟩
  rw [gb3] at gb5
  simp [gb5,kn]
  refine CallK.monoN ?_ T
  rintro _ h6 n6 ⟨rfl,⟨rfl,F⟩ | ⟨rfl,T2⟩⟩ hn6
  ·simp; exact ⟨RetP.bad _ _ _,F⟩
  ·simp [gb5,vn,cellsAt]
   refine CallK.monoN ?_ T2
   rintro _ h7 n7 (⟨rfl,F⟩ | ⟨rfl,T3⟩) hn7
   ·simp; exact ⟨RetP.bad _ _ _,F⟩
   ·simp
    refine CallK.monoN ?_ T3
    intro _ h8 n8 T4 hn8
    refine CallK.monoN ?_ T4
    intro _ h9 n9 F hn9
    exact ⟨by rw [eE]; exact RetP.ok _ _ _,F⟩
 by_cases c7:kind=7
 ·have eD:doF M (opR kind id N prog cell size w dk dkey dval dmax k v)=(tickF M N,0):=by simp only [doF]; rw [if_neg c0]; rw [if_neg c1]; rw [if_neg c2]; rw [if_neg c3]; rw [if_neg c4]; rw [if_neg c5]; rw [if_neg c6]; rw [if_pos c7]
  rw [eD]
  simp [c7,gb3]
  refine CallK.monoN ?_ (tick_ok I3 H N)
  rintro _ h5 n5 G hn5
  obtain ⟨gb5,T⟩:=tail h5 (n3) n5 _ (by omega) hn5 (lift G)
  rw [gb3] at gb5
  simp [gb5,kn]
  refine CallK.monoN ?_ T
  rintro _ h6 n6 ⟨rfl,⟨rfl,F⟩ | ⟨rfl,T2⟩⟩ hn6
  ·simp; exact ⟨RetP.bad _ _ _,F⟩
  ·simp [gb5,vn,cellsAt]
   refine CallK.monoN ?_ T2
   rintro _ h7 n7 (⟨rfl,F⟩ | ⟨rfl,T3⟩) hn7
   ·simp; exact ⟨RetP.bad _ _ _,F⟩
   ·simp
    refine CallK.monoN ?_ T3
    intro _ h8 n8 T4 hn8
    refine CallK.monoN ?_ T4
    intro _ h9 n9 F hn9
    exact ⟨RetP.ok _ _ _,F⟩
 by_cases c8:kind=8
 ·have eD:doF M (opR kind id N prog cell size w dk dkey dval dmax k v)=(sweepF M,0):=by simp only [doF]; rw [if_neg c0]; rw [if_neg c1]; rw [if_neg c2]; rw [if_neg c3]; rw [if_neg c4]; rw [if_neg c5]; rw [if_neg c6]; rw [if_neg c7]; rw [if_pos c8]
  rw [eD]
  simp [c8,gb3]
  refine CallK.monoN ?_ (sweepM_ok I3 H hla)
  rintro _ h5 n5 ⟨rfl,G⟩ hn5
  obtain ⟨gb5,T⟩:=tail h5 (n3) n5 _ (by omega) hn5 (lift G)
  rw [gb3] at gb5
  simp [gb5,kn]
  refine CallK.monoN ?_ T
  rintro _ h6 n6 ⟨rfl,⟨rfl,F⟩ | ⟨rfl,T2⟩⟩ hn6
  ·simp; exact ⟨RetP.bad _ _ _,F⟩
  ·simp [gb5,vn,cellsAt]
   refine CallK.monoN ?_ T2
   rintro _ h7 n7 (⟨rfl,F⟩ | ⟨rfl,T3⟩) hn7
   ·simp; exact ⟨RetP.bad _ _ _,F⟩
   ·simp
    refine CallK.monoN ?_ T3
    intro _ h8 n8 T4 hn8
    refine CallK.monoN ?_ T4
    intro _ h9 n9 F hn9
    exact ⟨RetP.ok _ _ _,F⟩
 have eD:doF M (opR kind id N prog cell size w dk dkey dval dmax k v)=(M,0):=by simp only [doF]; rw [if_neg c0,if_neg c1,if_neg c2,if_neg c3,if_neg c4,if_neg c5,if_neg c6,if_neg c7,if_neg c8]
 rw [eD]
 simp [c0,c1,c2,c3,c4,c5,c6,c7,c8,gb3,kn]
 obtain ⟨gb5,T⟩:=tail h3 n3 n3 M (Nat.le_refl _) (Nat.le_refl _) ⟨τ,I3,Keep.refl _ _ _ _,L,H⟩
 refine CallK.monoN ?_ T
 rintro _ h6 n6 ⟨e6,⟨rfl,F⟩ | ⟨rfl,T2⟩⟩ hn6
 ·simp; exact ⟨RetP.bad _ _ _,F⟩
 ·obtain rfl:h3=h6:=e6.symm
  simp [gb3,vn,cellsAt]
  refine CallK.monoN ?_ T2
  rintro _ h7 n7 (⟨rfl,F⟩ | ⟨rfl,T3⟩) hn7
  ·simp; exact ⟨RetP.bad _ _ _,F⟩
  ·simp
   refine CallK.monoN ?_ T3
   intro _ h8 n8 T4 hn8
   refine CallK.monoN ?_ T4
   intro _ h9 n9 F hn9
   exact ⟨RetP.ok _ _ _,F⟩
end Go.Ev
end
