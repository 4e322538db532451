import Derived.Test.YtaigdhieijndgaaGreatMQ26
import Derived.Test.YtaigdhieijndgaaGreatEQ13
section
namespace Go.Ev
open Proofs
set_option maxRecDepth 20000
theorem cond_cg {α:Type} {c c':Bool} {a b:α} (h:c=c'):(bif c then a else b)=(bif c' then a else b):=by rw [h]
attribute [local congr] cond_cg
theorem RowsB.row {n0 nR n:Nat} {h:Heap} {v:V} {rs:List (List Int×List Int)} (H:RowsB n0 nR n h v rs) {j:Nat} (hj:j<rs.length) :
  ∃ a o A x y b d,indexAddr CC 40 v (.s (.int .i64 (j:Nat)))=some (.ptr a (o+j*2))∧h.get a=some (.cells (.lst A) 2)∧A[o+j*2]? = some x∧A[o+j*2+1]? = some y∧BytesAt h b x rs[j].1∧BytesAt h d y rs[j].2∧a<n∧b<n∧d<n∧normV x=x∧normV y=y:=by
 obtain ⟨a,cs,hG,ha,hor,hl,hr⟩:=H
 obtain ⟨w,x,b,d,hw,hx,hb,hd,b0,bn,_,d0,dn,_⟩:=hr j _ (List.getElem?_eq_getElem hj)
 rcases hG with ⟨_,h0,_⟩ | ⟨o,c,op,A,rfl,hc,hg,hA,_,hcs⟩
 ·omega
 have an:a<n:=by rcases hor with h | h; exact h; cases h
 have at_:∀ k x,cs[k]? = some x→A[o+k]? = some x:=fun k x hk=>by
  rw [← hcs] at hk
  have hkl:k<rs.length*2:=by
   have:=(List.getElem?_eq_some_iff.1 hk).1
   simp at this; omega
  rwa [List.getElem?_take_of_lt hkl,List.getElem?_drop] at hk
 refine ⟨a,o,A,w,x,b,d,by simp [show Nat.blt j rs.length=true from by rw [Nat.blt_eq]; exact hj],hg,?_,?_,hb,hd,an,bn,dn,(norm_bytesAt hb).1,(norm_bytesAt hd).1⟩
 ·rw [Nat.mul_comm]; exact at_ _ _ hw
 ·rw [Nat.mul_comm,Nat.add_assoc]; exact at_ _ _ hx
theorem DeclsB.row {n0 n:Nat} {h:Heap} {v:V} {ds:List OneM} (H:DeclsB n0 n h v ds) {j:Nat} {o:OneM} (hj:ds[j]? = some o) :
  ∃ a k A,indexAddr CC 42 v (.s (.int .i64 (j:Nat)))=some (.ptr a (k+j*4))∧h.get a=some (.cells (.lst A) 4)∧A[k+j*4]? = some (.s (.int .i64 o.d.kind))∧A[k+j*4+3]? = some (.s (.int .i64 o.d.mx))∧a<n:=by
 obtain ⟨a,hG,ha,hor⟩:=H
 have hjl:=(List.getElem?_eq_some_iff.1 hj).1
 rcases hG with ⟨_,h0,_⟩ | ⟨k,c,op,A,rfl,hc,hg,hA,_,hcs⟩
 ·omega
 have an:a<n:=by rcases hor with h | h; exact h; cases h
 have at_:∀ i x,(declsV ds)[i]? = some x→A[k+i]? = some x:=fun i x hk=>by
  have hil:=(List.getElem?_eq_some_iff.1 hk).1
  rw [declsV_len] at hil
  rw [← hcs] at hk
  rwa [List.getElem?_take_of_lt hil,List.getElem?_drop] at hk
 obtain ⟨h1,h2⟩:=declsV_at hj
 exact ⟨a,k,A,by simp [show Nat.blt j ds.length=true from by rw [Nat.blt_eq]; exact hjl],hg,at_ _ _ h1,by rw [Nat.add_assoc]; exact at_ _ _ h2,an⟩
theorem RowsB.len {n0 nR n:Nat} {h:Heap} {v:V} {rs:List (List Int×List Int)} (H:RowsB n0 nR n h v rs) (h':Heap):lenV CC h' 40 v=some (.s (.int .i64 (rs.length:Nat))):=by
 obtain ⟨a,cs,hG,_⟩:=H
 rcases hG with ⟨rfl,h0,_⟩ | ⟨o,c,op,A,rfl,_⟩
 ·rw [h0]; simp
 ·simp
theorem DeclsB.len {n0 n:Nat} {h:Heap} {v:V} {ds:List OneM} (H:DeclsB n0 n h v ds) (h':Heap):lenV CC h' 42 v=some (.s (.int .i64 (ds.length:Nat))):=by
 obtain ⟨a,hG,_⟩:=H
 rcases hG with ⟨rfl,h0,_⟩ | ⟨o,c,op,A,rfl,_⟩
 ·rw [h0]; simp
 ·simp
theorem valO_at {M:MM} {o:OneM} (K:KeysOk o) (j:Nat) (hj:j<(keysO o).length) (hp:∀ l,o.by_≠.progs l):∃ x,findO o ((keysO o).getD j [])=some x∧valO M o j ((keysO o).getD j [])=bytesF M.C x:=by
 have e:(keysO o).getD j []=(keysO o)[j]:=by rw [List.getD_eq_getElem?_getD,List.getElem?_eq_getElem hj]; rfl
 obtain ⟨x,hx⟩:=K.there hp (keysO o)[j] (List.getElem_mem _)
 refine ⟨x,by rw [e]; exact hx,?_⟩
 unfold valO
 rw [e,hx]
 cases hb:o.by_ with
 | progs l=>exact absurd hb (hp l)
 | _=>rfl
theorem good_found {M:MM} (G:GoodM M) {id:Int} {o:OneM} (h:M.at id=some o) {k:List Int} {x:Int} (hf:findO o k=some x):∃ l,M.C x=some (l,false)∧(l.length:Int)=o.d.val∧1≤l.length∧l.length≤64:=by
 have hm:=List.mem_of_getElem? (MM.at_some h).2
 obtain ⟨l,h1,h2⟩:=G.live o hm _ x (find_slot hf)
 obtain ⟨k1,k2,k3,k4,_⟩:=(G.fine o hm).1.may
 exact ⟨l,h1,h2,by omega,by omega⟩
theorem bytesF_at {C:CM} {x:Int} {l:List Int} {b:Bool} (h:C x=some (l,b)):bytesF C x=l:=by unfold bytesF; rw [h]
set_option maxHeartbeats 2000000 in
theorem holds_rows {τ:Gh} {m c p n0 nR:Nat} {L:List Nat} {M:MM} {h0:Heap} {o:OneM} {t0 t4 rv dv kv ev:V} {kind id N prog cell size w dk dkey dval dmax:Int}
  (I:TInv τ h0 n0) (H:MapsX τ m c L M) (G:GoodM M) (hid:M.at id=some o) (hp:h0.get p=some (.cells (.lst (opL kind id N prog cell size w dk dkey dval dmax kv ev)) 13)) (hpn:p<n0)
  {nA nB:Nat} (hR:RowsB nA nR n0 h0 rv (rowsF M id)) (hD:DeclsB nB n0 h0 dv M.ones) {Q:X→St→Prop}
  (hQ:∀ t15 h n s,F3_L1110100100111111111100 t0 (.ptr m 0) t4 (.ptr p 0) rv dv t15 h n s→n0≤n→Same n0 [] h0 h→Q (.exit 2) s) :
  ∀ k s,(∃ (j:Nat) (h:Heap) (n:Nat),k=(rowsF M id).length-j∧j≤(rowsF M id).length∧F3_L1110100100111111111100 t0 (.ptr m 0) t4 (.ptr p 0) rv dv (.s (.int .i64 (j:Nat))) h n s∧n0≤n∧Same n0 [] h0 h) →
   LoopK CC none (subC [1,1,1,0,1,0,0,1,0,0,1,1,1,1,1,1,1,1,1,1,0,0] (bodyOf Tryz.f3)) s Q:=by
 have hm:=List.mem_of_getElem? (MM.at_some hid).2
 have hF:=(G.fine o hm).1
 have K:KeysOk o:=keys_good hF (G.fine o hm).2
 refine loopH CCok _ ?_
 rintro k s ⟨j,h,n,hk,hj,hs,hn,hsame⟩ hlt
 obtain ⟨g',rfl⟩:=hs
 rw [F3_b1110100100111111111100]
 replace hlt:∀ b o,h.get b=some o→b<n:=hlt
 have hlen:(rowsF M id).length=(keysO o).length:=by unfold rowsF; rw [hid]; simp
 have h64:=K.tells.1
 have hlenV:=hR.len
 by_cases hj':j<(rowsF M id).length
 ·have e3:wrapF .i64 ((j:Int)+1)=((j+1:Nat):Int):=by rw [wrapF_i64 (by omega) (by omega)]; rfl
  obtain ⟨a,oo,A,x,y,b,d,hix,hg,hx,hy,hb,hd,an,bn,dn,nx,ny⟩:=hR.row hj'
  have hg1:=(hsame a an (by simp)).trans hg
  have hb1:=hb.of (hsame b bn (by simp))
  have hd1:=hd.of (hsame d dn (by simp))
  have hp1:=(hsame p hpn (by simp)).trans hp
  have hgp:=(hsame p hpn (by simp)).trans hp
  have ek:∀ i (h:i<(keysO o).length),(keysO o).getD i []=(keysO o)[i]:=fun i h=>by rw [List.getD_eq_getElem?_getD,List.getElem?_eq_getElem h]; rfl
  have er:∀ i (h:i<(rowsF M id).length) (h':i<(keysO o).length),(rowsF M id)[i]=((keysO o)[i],valO M o i (keysO o)[i]):=fun i h h'=>by
   simp only [rowsF,hid,rowsO,List.getElem_map,List.getElem_range,ek i h']
  have hj2:j<(keysO o).length:=by omega
  rw [er j hj' hj2] at hb1 hd1
  obtain ⟨kk,hkk⟩:∃ kk,kk=(keysO o)[j]:=⟨_,rfl⟩
  have hty:=K.tells.by_ (keysO o)[j] (List.getElem_mem _)
  have key:∀ (i:Nat) (hi:i+1=j),risesF (keysO o)[i] (keysO o)[j]=true:=fun i hi=>by subst hi; exact K.rise i (by omega)
  rw [← hkk] at hb1 hd1 hty
  have o1:(opL kind id N prog cell size w dk dkey dval dmax kv ev)[1]? = some (.s (.int .i64 id)):=rfl
  by_cases hpos:0<j
  rotate_left
  obtain ⟨n1,hn1,en⟩:∃ n1,n≤n1∧n1=n+17:=⟨_,by omega,rfl⟩
  simp [hlenV,hj',blt_dec,hpos]
  rw [← en]
  clear en
  simp [hix,cellsAt,hg1,hx,nx,hgp,o1]
  rotate_left
  obtain ⟨i,hi⟩:∃ i,i+1=j:=⟨j-1,by omega⟩
  have e1:wrapF .i64 ((j:Int)-1)=(i:Int):=by rw [wrapF_i64 (by omega) (by omega)]; omega
  obtain ⟨a2,o2,A2,x2,y2,b2,d2,hix2,hg2,hx2,hy2,hb2,hd2,an2,bn2,dn2,nx2,ny2⟩:=hR.row (j:=i) (by omega)
  have hg3:=(hsame a2 an2 (by simp)).trans hg2
  have hb3:=hb2.of (hsame b2 bn2 (by simp))
  rw [er i (by omega) (by omega)] at hb3
  simp [hlenV,hj',blt_dec,hpos,e1,hix2,cellsAt,hg3,hx2,nx2,hix,hg1,hx,nx]
  refine CallK.monoN ?_ (rises_ok hb3 hb1 (by have:=(K.tells.by_ (keysO o)[i] (List.getElem_mem _)).2; simp only; omega))
  rintro _ h1 n1 ⟨rfl,e⟩ hn1
  obtain rfl:h=h1:=e.symm
  have hri:=key i hi
  rw [← hkk] at hri
  replace hn1:n≤n1:=by omega
  simp [hri,hgp,hg1,hx,nx,o1]
  all_goals
   have I1:TInv τ h (n1+14):=I.same hsame (by omega)
   refine CallK.monoN ?_ (mPeek_ok (kb:=b) I1 H id (by omega) hb1 hty.1 (by simp only; omega))
   rintro _ h2 n2 ⟨rfl,hs2⟩ hn2
   have hs02:Same n0 [] h0 h2:=fun x hx hf=>by rw [hs2 x (by omega) (by simp),hsame x hx hf]
   have hgp2:=(hs02 p hpn (by simp)).trans hp
   have e3:wrapF .i64 (id-1)=(idxOf id:Nat):=by
    have:=(MM.at_some hid).1
    unfold idxOf
    have:=H.l8
    have:=H.len
    rw [wrapF_i64 (by omega) (by omega)]; omega
   obtain ⟨aD,kD,AD,dix,dg,dk1,dk2,aDn⟩:=hD.row (MM.at_some hid).2
   have dg2:=(hs02 aD aDn (by simp)).trans dg
   simp only [hid,Option.bind_some,pairV]
   have e4:wrapF .i64 ((j:Int)+1)=((j+1:Nat):Int):=by rw [wrapF_i64 (by omega) (by omega)]; rfl
   by_cases h4:o.d.kind=4
   ·simp [cellsAt,hgp2,e3,dix,dg2,dk1,o1,h4]
    simp only [roundQ]
    exact ⟨(rowsF M id).length-(j+1),h2,by omega,fun hok b o hb=>⟨o,hb,hok b o hb⟩,j+1,rfl,by omega,h2,_,by rw [e4]; exact F3_L1110100100111111111100_of,by omega,hs02⟩
   ·have hnp:∀ l,o.by_≠.progs l:=fun l hl=>by
     have:=hF.by_
     rw [hl] at this
     exact h4 this.1
    obtain ⟨x9,hf9,hv9⟩:=valO_at (M:=M) K j hj2 hnp
    rw [ek j hj2,← hkk] at hf9 hv9
    simp only [hv9] at hd1
    have hd2:=hd1.of (hs2 d (by omega) (by simp))
    have hg2a:=(hs02 a an (by simp)).trans hg
    simp [cellsAt,hgp2,e3,dix,dg2,dk1,o1,h4,hf9,hix,hg2a,hy,ny]
    refine CallK.monoN ?_ (mBytes_ok (n:=n2+24) (I1.same hs2 (by omega)) H x9)
    rintro bv h3 n3 ⟨hB3,hs3⟩ hn3
    obtain ⟨a3,hB,ha3⟩:=hB3.at n3
    have hs03:Same n0 [] h0 h3:=fun x hx hf=>by rw [hs3 x (by omega) (by simp),hs02 x hx hf]
    have hg3a:=(hs03 a an (by simp)).trans hg
    have hgp3:=(hs03 p hpn (by simp)).trans hp
    have hd3:=hd2.of (hs3 d (by omega) (by simp))
    simp [cellsAt,hg3a,hy,ny]
    have hl9:(bytesF M.C x9).length≤140737488351232:=by
     obtain ⟨l,h1,_,_,h3⟩:=good_found G hid hf9
     rw [bytesF_at h1]; omega
    refine CallK.monoN ?_ (sameB_ok (.inl hB) (.inl hd3) hl9)
    rintro _ h5 n5 ⟨rfl,e⟩ hn5
    obtain rfl:h3=h5:=e.symm
    simp
    simp only [roundQ]
    exact ⟨(rowsF M id).length-(j+1),h3,by omega,fun hok b o hb=>⟨o,hb,hok b o hb⟩,j+1,rfl,by omega,h3,_,by rw [e4]; exact F3_L1110100100111111111100_of,by omega,hs03⟩
 ·rw [hlenV,oK_some,bin_lss,oK_some,show decide ((j:Int)<((rowsF M id).length:Nat))=false from by simp; omega]
  show Q (.exit 2) _
  exact hQ _ h n _ F3_L1110100100111111111100_of hn hsame
end Go.Ev
end
section
namespace Go.Ev
open Proofs
set_option maxRecDepth 20000
attribute [local simp ↓] oK_S cond_S callK_S loopK_S
attribute [local simp] oKS_some condS_t condS_f
structure Goer (hp:Heap) (n0 m c:Nat) (i:Nat) (h:Heap) (n:Nat) (τ:Gh) (L:List Nat) (M:MM):Prop where
 I:TInv τ h n
 H:MapsX τ m c L M
 G:GoodM M
 le:n0≤n
 non:∀ x,x<n0→τ x=none∧h.get x=hp.get x
 la:M.last≤64*(i:Int)
 ev:M.ev.length≤2*i
theorem Goer.same {hp h h':Heap} {n0 m c i n n':Nat} {τ:Gh} {L:List Nat} {M:MM} (g:Goer hp n0 m c i h n τ L M) (s:Same n [] h h') (hn:n≤n'):Goer hp n0 m c i h' n' τ L M:=
 ⟨g.I.same s hn,g.H,g.G,by have:=g.le; omega,fun x hx=>⟨(g.non x hx).1,by rw [s x (by have:=g.le; omega) (by simp)]; exact (g.non x hx).2⟩,g.la,g.ev⟩
theorem Goer.same' {hp h h':Heap} {n0 m c i n ng n':Nat} {τ:Gh} {L:List Nat} {M:MM} (g:Goer hp n0 m c i h n τ L M) (s:Same ng [] h h') (h1:n≤ng) (h2:ng≤n'):Goer hp n0 m c i h' n' τ L M:=
 g.same (fun x hx hf=>s x (by omega) hf) (by omega)
theorem RowsB.of {n0 nR n n':Nat} {h h':Heap} {v:V} {rs:List (List Int×List Int)} (H:RowsB n0 nR n h v rs) (s:Same n [] h h') (hn:n≤n'):RowsB n0 nR n' h' v rs:=by
 obtain ⟨a,cs,hG,ha,hor,hl,hr⟩:=H
 refine ⟨a,cs,?_,ha,hor.imp (fun h=>by omega) id,hl,fun i r hi=>?_⟩
 ·rcases hG with q | ⟨o1,k1,op1,A1,p1,p2,p3,p4⟩
  ·exact .inl q
  ·refine .inr ⟨o1,k1,op1,A1,p1,p2,?_,p4⟩
   rcases hor with h | h
   ·rw [s a h (by simp)]; exact p3
   ·rw [p1] at h; cases h
 ·obtain ⟨w,x,b,d,q1,q2,q3,q4,q5,q6,q7,q8,q9,q10⟩:=hr i r hi
  exact ⟨w,x,b,d,q1,q2,q3.of (s b q6 (by simp)),q4.of (s d q9 (by simp)),q5,by omega,q7,q8,by omega,q10⟩
theorem Goer.go {hp h h':Heap} {n0 m c i n n':Nat} {τ τ':Gh} {L L':List Nat} {M M':MM} (g:Goer hp n0 m c i h n τ L M) (I':TInv τ' h' n') (K:Keep anyFp τ τ' n h h') (hn:n≤n') (H':MapsX τ' m c L' M') (G':GoodM M') (gr:GrowB M M'):Goer hp n0 m c (i+1) h' n' τ' L' M':=
 ⟨I',H',G',by have:=g.le; omega,fun x hx=>by
  have h1:=g.non x hx
  have h2:=K.non x (by have:=g.le; omega) h1.1
  exact ⟨h2.1,h2.2.trans h1.2⟩,by have:=g.la; have:=gr.2.1; omega,by have:=g.ev; have:=gr.2.2; omega⟩
theorem store13 {h:Heap} {n:Nat} {Z O:List V} (hZ:Z.length=13) (hO:O.length=13):∃ h',(bif O.length.beq 13 then storeCells (Tree.set h n (.cells (.lst Z) 13)) n 0 (.lst O) else none)=some h'∧h'.get n=some (.cells (.lst O) 13)∧Same n [] h h':=by
 rw [hO,show Nat.beq 13 13=true from rfl]
 refine ⟨_,by rw [condT,storeCells_lst (by rw [Tree.get_set_same]) (by simp [hZ,hO])],?_,fun b hb _=>?_⟩
 ·rw [Tree.get_set_same]
  have:O.drop 13=[]:=List.drop_of_length_le (by omega)
  simp [hO,hZ]
 ·rw [Tree.get_set,if_neg (by omega),Tree.get_set,if_neg (by omega)]
def HoldsI (hp:Heap) (n0 N m c:Nat) (mv:V) (k:Nat) (s:St):Prop:=∃ (i:Nat) (h:Heap) (n:Nat) (τ:Gh) (L:List Nat) (M:MM),k=N-i∧i≤N∧F3_L1110100 mv (.ptr m 0) (.s (.int .i64 (i:Nat))) h n s∧Goer hp n0 m c i h n τ L M
theorem HoldsI.of {hp:Heap} {n0 N m c:Nat} {mv:V} {s:St} {i:Nat} {h:Heap} {n n':Nat} {τ:Gh} {L:List Nat} {M:MM} (hi:i≤N) (hs:F3_L1110100 mv (.ptr m 0) (.s (.int .i64 (i:Nat))) h n' s) (g:Goer hp n0 m c i h n τ L M) (hn:n≤n'):HoldsI hp n0 N m c mv (N-i) s:=
 ⟨i,h,n',τ,L,M,rfl,hi,hs,g.same (Same.refl _ _ _) hn⟩
set_option maxHeartbeats 4000000 in
theorem holds_loop {hp:Heap} {n0 N m c:Nat} {mv:V} (hO:OpsArg hp n0 mv N) (hN:N≤200) {Q:X→St→Prop}
  (hQ:∀ t4 h n s,F3_L1110100 mv (.ptr m 0) t4 h n s→Q (.exit 0) s) :
  ∀ k s,HoldsI hp n0 N m c mv k s →
   LoopK CC none (subC [1,1,1,0,1,0,0] (bodyOf Tryz.f3)) s Q:=by
 refine loopH CCok _ ?_
 rintro k s ⟨i,h,n,τ,L,M,hk,hi,hs,g⟩ hlt
 obtain ⟨g',rfl⟩:=hs
 rw [F3_b1110100]
 replace hlt:∀ b o,h.get b=some o→b<n:=hlt
 obtain ⟨hlen,hnorm,hix⟩:=hO
 by_cases hi':i<N
 ·have e3:wrapF .i64 ((i:Int)+1)=((i+1:Nat):Int):=by rw [wrapF_i64 (by omega) (by omega)]; rfl
  obtain ⟨p,off,A,es,kind,id,NN,prog,cell,size,w,dk,dkey,dval,dmax,kv,dv,kl,dl,kb,db,pn,hx,hc,hA,ht,kn,dn,hkB,hdB,lk,ld,byk,byd⟩:=hix i hi'
  have hc1:=cellsAt_same hc (g.non p pn).2
  have nle:=g.le
  have hk1:=hkB.of (g.non kb kn).2
  have hd1:=hdB.of (g.non db dn).2
  simp [hlen,hi',blt_dec,hx,hc1,ble_dec,hA,ht]
  obtain ⟨h1,e1,gb,s1⟩:=store13 (h:=h) (n:=n) (Z:=[.s (.int .i64 0),.s (.int .i64 0),.s (.int .i64 0),.s (.int .i64 0),.s (.int .i64 0),.s (.int .i64 0),.s (.int .u64 0),.s (.int .i64 0),.s (.int .i64 0),.s (.int .i64 0),.s (.int .i64 0),.s (.slice none 0 0),.s (.slice none 0 0)]) (O:=opL kind id NN prog cell size w dk dkey dval dmax kv dv) rfl rfl
  rw [e1]
  have o0:(opL kind id NN prog cell size w dk dkey dval dmax kv dv)[0]? = some (.s (.int .i64 kind)):=rfl
  have o1:(opL kind id NN prog cell size w dk dkey dval dmax kv dv)[1]? = some (.s (.int .i64 id)):=rfl
  have o11:(opL kind id NN prog cell size w dk dkey dval dmax kv dv)[11]? = some kv:=rfl
  have o12:(opL kind id NN prog cell size w dk dkey dval dmax kv dv)[12]? = some dv:=rfl
  simp [cellsAt,gb,o1,o11,hk1.norm.1]
  have opll:(opL kind id NN prog cell size w dk dkey dval dmax kv dv).length=13:=rfl
  have optk:(opL kind id NN prog cell size w dk dkey dval dmax kv dv).take 13=opL kind id NN prog cell size w dk dkey dval dmax kv dv:=rfl
  have g1:=g.same s1 (Nat.le_succ n)
  have pos:∀ {h:Heap} {i n:Nat} {τ L M},Goer hp n0 m c i h n τ L M→ByteArg h kb kv kl∧ByteArg h db dv dl∧τ kb=none∧τ db=none:=fun g=>⟨hkB.of (g.non kb kn).2,hdB.of (g.non db dn).2,(g.non kb kn).1,(g.non db dn).1⟩
  refine CallK.monoN ?_ (mPeekA_ok g1.I g1.H id (by omega) (pos g1).1 byk (by omega))
  rintro _ h2 n2 ⟨rfl,s2⟩ hn2
  have g2:=g1.same s2 hn2
  have gb2:=(s2 n (by omega) (by simp)).trans gb
  obtain ⟨was,hwas⟩:∃ was,was=(M.at id).bind fun o=>findO o kl:=⟨_,rfl⟩
  rw [← hwas]
  simp [pairV,cellsAt,gb2,opll,optk]
  have gev:=g2.ev
  have gla:=g2.la
  have p2:=pos g2
  refine CallK.monoN ?_ (do_ok kind id NN prog cell size w dk dkey dval dmax g2.I g2.H (by omega) (by omega) (by omega) p2.2.2.1 p2.1 byk lk (by omega) p2.2.2.2 p2.2.1 byd ld)
  rintro _ h3 n3 ⟨⟨a,b,e,rfl,he⟩,τ',I3,K3,L',H3⟩ hn3
  obtain ⟨W,hW⟩:∃ W,W=doF M (opR kind id NN prog cell size w dk dkey dval dmax kl dl):=⟨_,rfl⟩
  obtain ⟨G3,gr⟩:=good_do g2.G (opR kind id NN prog cell size w dk dkey dval dmax kl dl) byk
  rw [← hW] at he H3 G3 gr
  have g3:=g2.go I3 K3 hn3 H3 G3 gr
  have gb3:=((K3.non n (by omega) (g.I.none (Nat.le_refl _))).2).trans gb2
  simp [cellsAt,gb3,o1,o11,hk1.norm.1]
  refine CallK.monoN ?_ (mPeekA_ok g3.I g3.H id (by omega) (pos g3).1 byk (by omega))
  rintro _ h4 n4 ⟨rfl,s4⟩ hn4
  have g4:=g3.same s4 hn4
  have gb4:=(s4 n (by omega) (by simp)).trans gb3
  obtain ⟨now,hnow⟩:∃ now,now=(W.1.at id).bind fun o=>findO o kl:=⟨_,rfl⟩
  rw [← hnow]
  simp [pairV,cellsAt,gb4,o0,o1,o12,hd1.norm.1]
  have upd:kind=3→e=0→∃ x,now=some x∧W.1.C x=some (dl,false)∧∀ y,was=some y→y=x:=fun hk he0=>by
   have e0:W.2=0:=by omega
   have eW:W=updateF M id kl dl:=by rw [hW]; unfold doF; simp only [opR]; rw [if_neg (by omega),if_neg (by omega),if_neg (by omega),if_pos hk]
   rw [eW] at e0
   obtain ⟨o',x,u1,u2,u3,u4⟩:=(good_update g2.G id byk dl).2.2 e0
   refine ⟨x,by rw [hnow,eW,u1]; exact u2,by rw [eW]; exact u3,fun y hy=>?_⟩
   rw [hwas] at hy
   cases ho:M.at id with
   | none=>rw [ho] at hy; cases hy
   | some o=>rw [ho] at hy; exact u4 o y ho hy
  have del:kind=4→e=0→(∃ x,was=some x)∧now=none:=fun hk he0=>by
   have e0:W.2=0:=by omega
   have eW:W=deleteF M id kl:=by rw [hW]; unfold doF; simp only [opR]; rw [if_neg (by omega),if_neg (by omega),if_neg (by omega),if_neg (by omega),if_pos hk]
   rw [eW] at e0
   obtain ⟨⟨o,x,u1,u2⟩,o',u3,u4⟩:=(good_delete g2.G id kl).2.2 e0
   exact ⟨⟨x,by rw [hwas,u1]; exact u2⟩,by rw [hnow,eW,u3]; exact u4⟩
  by_cases c3:kind=3∧e=0
  rotate_left
  by_cases c4:kind=4∧e=0
  rotate_left
  by_cases k3:kind=3
  rotate_left
  by_cases k4:kind=4
  rotate_left
  simp [k3,k4,cellsAt,gb4,o0,o1]
  have g5:=g4.same (Same.refl n4 [] h4) (Nat.le_refl _)
  have gb5:=gb4
  rotate_left
  obtain ⟨x,hnow1,hC,hw⟩:=upd c3.1 c3.2
  obtain ⟨rfl,rfl⟩:=c3
  simp [hnow1,cellsAt,gb4,o12,hd1.norm.1]
  refine CallK.monoN ?_ (mBytes_ok (g4.same (Same.refl n4 [] h4) (by omega)).I g4.H x)
  rintro bv h5 n5 ⟨hB5,s5⟩ hn5
  obtain ⟨a5,hB,_⟩:=hB5.at n5
  have g5:=(g4.same (Same.refl n4 [] h4) (n':=n4+44) (by omega)).same s5 hn5
  have gb5:=(s5 n (by omega) (by simp)).trans gb4
  rw [bytesF_at hC] at hB
  simp [cellsAt,gb5,o0,o1,o12,hd1.norm.1]
  refine CallK.monoN ?_ (sameB_ok (.inl hB) (pos g5).2.1 (by omega))
  rintro _ h6 n6 ⟨rfl,e6⟩ hn6
  obtain rfl:h5=h6:=e6.symm
  have g5:=g5.same (Same.refl n5 [] h5) hn6
  rcases hwa:was with _ | y
  simp [cellsAt,gb5,o0,o1]
  rotate_left
  have:=hw y hwa
  subst this
  simp [cellsAt,gb5,o0,o1,hnow1]
  rotate_left
  obtain ⟨⟨x,hx1⟩,hnow1⟩:=del c4.1 c4.2
  obtain ⟨rfl,rfl⟩:=c4
  simp [hx1,hnow1,cellsAt,gb4,o0,o1]
  have g5:=g4.same (Same.refl n4 [] h4) (Nat.le_refl _)
  have gb5:=gb4
  rotate_left
  have e0:¬ e=0:=fun h=>c3 ⟨k3,h⟩
  subst k3
  simp [e0,cellsAt,gb4,o0,o1]
  have g5:=g4.same (Same.refl n4 [] h4) (Nat.le_refl _)
  have gb5:=gb4
  rotate_left
  have e0:¬ e=0:=fun h=>c4 ⟨k4,h⟩
  subst k4
  simp [e0,cellsAt,gb4,o0,o1]
  have g5:=g4.same (Same.refl n4 [] h4) (Nat.le_refl _)
  have gb5:=gb4
  all_goals
   refine CallK.monoN ?_ (rows_ok (g5.same (Same.refl _ [] _) (by omega)).I g5.H id fun o ho=>(keys_good (g5.G.fine o (List.mem_of_getElem? (MM.at_some ho).2)).1 (g5.G.fine o (List.mem_of_getElem? (MM.at_some ho).2)).2).tells)
   rintro rv h7 n7 ⟨⟨nR,hnR,hR⟩,s7⟩ hn7
   have g7:=g5.same' s7 (by omega) hn7
   have gb7:=(s7 n (by omega) (by simp)).trans gb5
   simp
   refine CallK.monoN ?_ (decls_ok g7.I g7.H)
   rintro dv8 h8 n8 ⟨hD,s8⟩ hn8
   have g8:=g7.same s8 hn8
   have gb8:=(s8 n (by omega) (by simp)).trans gb7
   have hR8:=hR.of s8 hn8
   have hlR:=hR8.len
   have hlD:=hD.len
   by_cases c0:id<1
   ·have hat:W.1.at id=none:=by unfold MM.at; rw [if_neg (by omega)]
    have eR:(rowsF W.1 id).length=0:=by unfold rowsF; rw [hat]; rfl
    simp [cellsAt,gb8,o1,c0,hlR,eR]
    simp only [roundQ]
    exact ⟨N-(i+1),h8,by omega,fun hok b o hb=>⟨o,hb,hok b o hb⟩,HoldsI.of (i:=i+1) (by omega) (by rw [e3]; exact F3_L1110100_of) (g8) (by omega)⟩
   by_cases c1:(W.1.ones.length:Int)<id
   ·have hat:W.1.at id=none:=by unfold MM.at; rw [if_neg (by omega)]
    have eR:(rowsF W.1 id).length=0:=by unfold rowsF; rw [hat]; rfl
    simp [cellsAt,gb8,o1,c0,hlR,eR,hlD,c1]
    simp only [roundQ]
    exact ⟨N-(i+1),h8,by omega,fun hok b o hb=>⟨o,hb,hok b o hb⟩,HoldsI.of (i:=i+1) (by omega) (by rw [e3]; exact F3_L1110100_of) (g8) (by omega)⟩
   have l8:=g8.H.l8
   have lL:=g8.H.len
   obtain ⟨o,ho⟩:∃ o,W.1.ones[idxOf id]? = some o:=⟨_,List.getElem?_eq_getElem (by unfold idxOf; omega)⟩
   have hat:W.1.at id=some o:=by unfold MM.at; rw [if_pos (by omega)]; exact ho
   have hm9:=List.mem_of_getElem? ho
   have Ko:=keys_good (g8.G.fine o hm9).1 (g8.G.fine o hm9).2
   have e9:wrapF .i64 (id-1)=(idxOf id:Nat):=by unfold idxOf; rw [wrapF_i64 (by omega) (by omega)]; omega
   obtain ⟨aD,kD,AD,dix,dg,dk1,dk2,aDn⟩:=hD.row ho
   have hlen9:(rowsF W.1 id).length=(keysO o).length:=by unfold rowsF; rw [hat]; simp
   have few:¬ o.d.mx<((rowsF W.1 id).length:Nat):=by have:=Ko.few; omega
   simp [cellsAt,gb8,o1,c0,hlR,hlD,c1,e9,dix,dg,dk2,few]
   refine LoopS.of (holds_rows (nR:=nR) g8.I g8.H g8.G hat gb8 (by omega) hR8 hD ?_ _ _ ⟨0,h8,n8,rfl,by omega,F3_L1110100100111111111100_of,Nat.le_refl _,Same.refl _ _ _⟩)
   rintro t15 h10 n10 s10 ⟨g10,rfl⟩ hn10 hs10
   rw [F3_r1110100100111111111100_2]
   simp
   simp only [roundQ]
   exact ⟨N-(i+1),h10,by omega,fun hok b o hb=>⟨o,hb,hok b o hb⟩,HoldsI.of (i:=i+1) (by omega) (by rw [e3]; exact F3_L1110100_of) (g8.same hs10 hn10) (by omega)⟩
 ·simp [hlen,hi',blt_dec,roundQ]
  exact hQ _ h n _ F3_L1110100_of
end Go.Ev
end
section
namespace Go.Ev
open Proofs
set_option maxRecDepth 20000
attribute [local simp ↓] oK_S cond_S callK_S loopK_S
attribute [local simp] oKS_some condS_t condS_f
theorem tinv_nil {h:Heap} {n:Nat}:TInv (fun _=>Option.none) h n:=fun b k e=>by cases e
theorem GoodM.nil:GoodM ⟨fun _=>none,0,[],0,[]⟩:=⟨fun o ho=>by simp at ho,fun x hx=>absurd rfl hx,Int.le_refl _,fun o ho=>by simp at ho,fun i j o o' s s' x h=>by simp at h⟩
theorem mapsHolds {hp:Heap} {n0 N:Nat} {mv:V} (hO:OpsArg hp n0 mv N) (kw:∀ h n,CallK CC 11 [] h n fun v h' n'=>v=.s (.bool true)):CallK CC 3 [mv] hp n0 fun v _ _=>v=.s (.bool true):=by
 refine F3_call fun hlt=>?_
 rw [F3_eq]
 refine CallK.monoN ?_ (long12_ok hO)
 rintro _ h1 n1 ⟨⟨b,rfl,hb⟩,e1⟩ hn1
 obtain rfl:hp=h1:=e1.symm
 cases b with
 | true=>
  simp
  refine CallK.monoN ?_ (kw _ _)
  rintro v _ _ rfl _
  rfl
 | false=>
  simp
  refine CallK.monoN ?_ (newMaps_ok (tinv_nil (h:=hp) (n:=n1)))
  rintro _ h2 n2 ⟨τ,I,K,m,c,rfl,hm,H⟩ hn2
  simp
  refine LoopS.of (holds_loop hO (hb rfl) ?_ _ _ (HoldsI.of (i:=0) (by omega) F3_L1110100_of ⟨I,H,GoodM.nil,by omega,fun x hx=>K.non x (by omega) rfl,by simp,by simp⟩ (Nat.le_refl _)))
  rintro t4 h3 n3 s ⟨g,rfl⟩
  rw [F3_r1110100_0]
  refine CallK.monoN ?_ (kw _ _)
  rintro v _ _ rfl _
  rfl
end Go.Ev
end
