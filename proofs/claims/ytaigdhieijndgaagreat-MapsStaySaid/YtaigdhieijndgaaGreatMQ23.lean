import Derived.Test.YtaigdhieijndgaaGreatMQ22
import Derived.Test.YtaigdhieijndgaaGreatEQ13
section
namespace Go.Ev
open Proofs
set_option maxRecDepth 20000
theorem hplace_ok {τ:Gh} {h:Heap} {n hb b j:Nat} {R:HashR} {ks st cs sl:V} {k:List Int} (I:TInv τ h n) (ht:τ hb=some (.hash j R)) (H:HashAt τ h hb R ks st cs) (hbn:b<n) (hs:BytesAt h b sl k) (hkB:Byt k) (hk:k.length≤4611686018427387904) :
  CallK CC 191 [.ptr hb 0,sl] h n fun v h' n'=>v=.s (.int .i64 (placeI (placeF R k)))∧Same n [] h h':=by
 refine F191_call fun hlt=>?_
 rw [F191_eq]
 have hbn':hb<n:=(I hb _ ht).1
 have esl:V.cells sl=some (.one sl)∧normV sl=sl:=by rcases hs with ⟨rfl,_⟩ | ⟨_,_,_,_,_,rfl,_⟩ <;> exact ⟨rfl,rfl⟩
 have hlen:=hs.len
 have hg:=H.hg
 simp only [esl,oK_some,cells_ptr,Rope.toList_one,z3]
 generalize hh:(((h.set n (.cells (.lst [.ptr hb 0]) 1)).set (n+1) (.cells (.lst [sl]) 1)).set (n+1+1) (.cells (.lst [.s (.int .i64 0)]) 1))=h7
 have hs7:Same n [] h h7:=fun x hx _=>by rw [← hh,Tree.get_set,if_neg (by omega),Tree.get_set,if_neg (by omega),Tree.get_set,if_neg (by omega)]
 have g0:h7.get n=some (.cells (.lst [.ptr hb 0]) 1):=by rw [← hh,Tree.get_set,if_neg (by omega),Tree.get_set,if_neg (by omega),Tree.get_set,if_pos rfl]
 have g1:h7.get (n+1)=some (.cells (.lst [sl]) 1):=by rw [← hh,Tree.get_set,if_neg (by omega),Tree.get_set,if_pos rfl]
 have g2:h7.get (n+1+1)=some (.cells (.lst [.s (.int .i64 0)]) 1):=by rw [← hh,Tree.get_set,if_pos rfl]
 have I7:TInv τ h7 (n+3):=I.same hs7 (by omega)
 have hg7:h7.get hb=h.get hb:=hs7 hb hbn' (by simp)
 have hpn:∀ x,(x=hb∨∃ i,τ x=some (.part hb i))→x<n:=fun x hx=>by rcases hx with rfl | ⟨i,hx⟩; exact hbn'; exact (I x _ hx).1
 have H7:=H.of fun x hx=>hs7 x (hpn x hx) (by simp)
 rw [hg] at hg7
 simp [cellsAt,g0,g1,g2,hg7,hlen,esl,storeCells,cellsOwn,Rope.put,ble_dec,Tree.get_set]
 by_cases hkl:k.length=R.key
 ·have ePF:placeF R k=placeG R k (firstF R k) R.st.length 0:=by unfold placeF; rw [if_pos hkl]
  rw [ePF]
  simp [hkl]
  refine CallK.monoN ?_ (way_ok (hs.of (hs7 b hbn (by simp))))
  rintro _ h8 n8 ⟨⟨kb,hx,rfl,k1,k2,k3,k4,k5,k6⟩,hs8⟩ hn8
  refine F191_E11010 rfl ?_
  have I8:TInv τ h8 n8:=I7.same (fun x hx hf=>hs8 x (by omega) hf) (by omega)
  have q8:∀ x,x<n+3→h8.get x=h7.get x:=fun x hx=>hs8 x (by omega) (by simp)
  refine CallK.monoN ?_ (place_way (r:=n+1+1) (b:=b) I8 (H7.of fun x hx=>q8 x (by have:=hpn x hx; omega)) (by omega) (by omega) (by omega) (by omega) ((hs.of (hs7 b hbn (by simp))).of (q8 b (by omega))) hkB hk
   rfl (by rw [q8 n (by omega),g0]) rfl (by rw [q8 (n+1) (by omega),g1]) rfl (by rw [q8 (n+1+1) (by omega),g2]) (by omega) (I.none (by omega)) k5 k6 (by omega) (by omega) k3 k4 (by omega) (by omega) (by omega) (by omega))
  rintro _ h9 n9 ⟨⟨ls,pend,w1,w2⟩,w3,w4⟩ hn9
  have smx:∀ x,x<n→h9.get x=h.get x:=fun x hx=>by rw [w3 x (by omega) (by simp; omega),q8 x (by omega),hs7 x hx (by simp)]
  rcases w2 with ⟨rfl,rfl,w6,w5⟩ | ⟨rfl,rfl,w5⟩
  ·simp only [endLoop,w1,Option.bind_some,oK_some]
   rw [F191_r11010]
   generalize (O.loop .exhausted none _ _ _ _)=ob
   simp [dropDefs,Tree.get_set,Tree.get_del,w4,w5,cellsAt,storeCells,cellsOwn,Rope.put,ble_dec,show ¬ n+1=n8 by omega,show ¬ n+1+1=n8 by omega,show ¬ n8=n+1+1 by omega]
   refine ⟨by rw [w6]; rfl,fun x hx _=>?_⟩
   rw [Tree.get_del,if_neg (by omega),Tree.get_set,if_neg (by omega),Tree.get_set,if_neg (by omega),smx x hx]
  ·simp only [endLoop,w1,Option.bind_some,oK_some]
   rw [F191_r11010_ret]
   generalize (O.loop .exhausted (some .ret) _ _ _ _)=ob
   simp [dropDefs,Tree.get_set,Tree.get_del,w4,w5,cellsAt,show ¬ n+1=n8 by omega,show ¬ n+1+1=n8 by omega]
   refine fun x hx _=>?_
   rw [Tree.get_del,if_neg (by omega),Tree.get_set,if_neg (by omega),smx x hx]
 ·have ePF:placeF R k=none:=by unfold placeF; rw [if_neg hkl]
  have hkl':¬ (k.length:Int)=(R.key:Int):=by omega
  rw [ePF]
  simp [hkl',placeI]
  exact fun x hx _=>by rw [Tree.get_set,if_neg (by omega),hs7 x hx (by simp)]
def findH (R:HashR) (k:List Int):Option Int:=(placeF R k).map fun p=>R.cs.getD p 0
theorem hashFind_ok {τ:Gh} {h:Heap} {n hb b j:Nat} {R:HashR} {sl:V} {k:List Int} (I:TInv τ h n) (ht:τ hb=some (.hash j R)) (hbn:b<n) (hs:BytesAt h b sl k) (hkB:Byt k) (hk:k.length≤4611686018427387904) :
  CallK CC 245 [.ptr hb 0,sl] h n fun v h' n'=>v=pairV (findH R k)∧Same n [] h h':=by
 refine F245_call fun hlt=>?_
 rw [F245_eq]
 obtain ⟨ks,st,cs,H⟩:=HashAt.of_inv I ht
 have hbn':=(I hb _ ht).1
 refine CallK.monoN ?_ (hplace_ok I ht H hbn hs hkB hk)
 rintro _ h1 n1 ⟨rfl,hs1⟩ hn1
 unfold findH
 cases hp:placeF R k with
 | none=>simp [placeI,pairV]; exact hs1
 | some p=>
  have hpl:=placeF_lt H.fine hp
  obtain ⟨d,o,c,op,A,es,hcs,hd,hgd,hA,h2,h3⟩:=H.hcs
  have hcl:=H.fine.cs
  have hx:=num_at hA (show p<R.cs.length by omega)
  have hg1:h1.get hb=_:=(hs1 hb hbn' (by simp)).trans H.hg
  have hg2:h1.get d=_:=(hs1 d (I d _ hd).1 (by simp)).trans hgd
  have hp0:¬ ((p:Int)<0):=by omega
  subst hcs
  simp [placeI,hp0,cellsAt,hg1,hg2,hx,blt_dec,show p<R.cs.length by omega,pairV]
  exact hs1
def delH (R:HashR) (k:List Int):HashR:=match placeF R k with
 | some p=>{ R with st:=splice R.st p [2],n:=wrapF .i64 (R.n-1) }
 | none=>R
theorem delH_fine {R:HashR} {k:List Int} (F:R.Fine):(delH R k).Fine:=by
 unfold delH
 cases hp:placeF R k with
 | none=>exact F
 | some p=>
  have hpl:=placeF_lt F hp
  have e:(splice R.st p [2]).length=R.st.length:=splice_length (by simp; omega)
  exact ⟨by show _=(splice R.st p [2]).length*_; rw [e]; exact F.ks,by show _=(splice R.st p [2]).length; rw [e]; exact F.cs,by show 1≤(splice R.st p [2]).length; rw [e]; exact F.p1,by show (splice R.st p [2]).length≤_; rw [e]; exact F.p2,F.k1,F.k2,F.by_⟩
theorem hashDel_ok {τ:Gh} {h:Heap} {n hb b j:Nat} {R:HashR} {sl:V} {k:List Int} (I:TInv τ h n) (ht:τ hb=some (.hash j R)) (hbn:b<n) (hs:BytesAt h b sl k) (hkB:Byt k) (hk:k.length≤4611686018427387904) :
  CallK CC 244 [.ptr hb 0,sl] h n fun v h' n'=>v=pairV (findH R k)∧Goes (onlyFp hb) τ n h h' n' fun τ'=>τ'=upT τ hb (.hash j (delH R k)):=by
 refine F244_call fun hlt=>?_
 rw [F244_eq]
 obtain ⟨ks,st,cs,H⟩:=HashAt.of_inv I ht
 have hbn':=(I hb _ ht).1
 refine CallK.monoN ?_ (hplace_ok I ht H hbn hs hkB hk)
 rintro _ h1 n1 ⟨rfl,hs1⟩ hn1
 have I1:=I.same hs1 hn1
 have K1:Keep (onlyFp hb) τ τ n h h1:=Keep.of_same hs1
 unfold findH
 have hdf:=delH_fine (k:=k) H.fine
 unfold delH at hdf ⊢
 cases hp:placeF R k with
 | none=>simp [placeI,pairV]; exact ⟨τ,I1,K1,(upT_id ht).symm⟩
 | some p=>
  rw [hp] at hdf
  have hpl:=placeF_lt H.fine hp
  have hcl:=H.fine.cs
  have hpn:∀ x,(x=hb∨∃ i,τ x=some (.part hb i))→x<n:=fun x hx=>by rcases hx with rfl | ⟨i,hx⟩; exact hbn'; exact (I x _ hx).1
  have H1:=H.of fun x hx=>hs1 x (hpn x hx) (by simp)
  obtain ⟨d,o,c,op,A,es,hst,hd,hgd,hA,b1,b2⟩:=H1.hst
  obtain ⟨d',o',c',op',A',es',hcs,hd',hgd',hA',c1,c2⟩:=H1.hcs
  have hx:=num_at hA' (show p<R.cs.length by omega)
  have hg1:=H1.hg
  have dd:d≠d':=by rintro rfl; rw [hd] at hd'; cases hd'
  have dh:hb≠d:=by rintro rfl; rw [hd] at ht; cases ht
  have dh':d'≠hb:=by rintro rfl; rw [hd'] at ht; cases ht
  have hp0:¬ ((p:Int)<0):=by omega
  have hks:=H1.hks
  subst hcs hst
  have e6:storeCells h1 d (o+p) (.one (.s (.int .u8 2)))=some (h1.set d (.cells (.lst (splice A (o+p) [.s (.int .u8 2)])) es)):=storeCells_lst hgd (by show o+p+1≤A.length; omega)
  simp [placeI,hp0,cellsAt,hg1,blt_dec,hpl,e6]
  simp [cellsAt,hg1,hgd',hx,blt_dec,show p<R.cs.length by omega,Tree.get_set,dh,dh',Ne.symm dd,storeCells,cellsOwn,Rope.put,ble_dec,pairV]
  generalize hh2:((h1.set d (.cells (.lst (splice A (o+p) [.s (.int .u8 2)])) es)).set hb (.cells (.lst [.s (.int .i64 (R.key:Nat)),.s (.int .i64 R.mx),.s (.int .i64 (wrapF .i64 (R.n-1))),ks,.slice d o R.st.length c op,.slice d' o' R.cs.length c' op']) 6))=h2
  have g2:∀ x,x≠d→x≠hb→h2.get x=h1.get x:=fun x h3 h4=>by rw [← hh2,Tree.get_set,if_neg h4,Tree.get_set,if_neg h3]
  have key2:∀ x,x<n1→x≠hb→(∀ i,τ x≠some (.part hb i))→h2.get x=h1.get x:=fun x _ hx hxp=>g2 x (by rintro rfl; exact hxp 1 hd) hx
  have up:∀ {x i k'},τ x=some (.part hb i)→upT τ hb k' x=some (.part hb i):=fun {x i k'} hx=>by rw [upT_other (by rintro rfl; rw [ht] at hx; cases hx)]; exact hx
  have hsl:(splice R.st p [2]).length=R.st.length:=splice_length (by simp; omega)
  refine ⟨_,I1.put (k':=.hash j { R with st:=splice R.st p [2],n:=wrapF .i64 (R.n-1) }) (Nat.le_refl _) ht (noPart (by simp)) (noPart (by simp)) key2 ⟨ks,.slice d o R.st.length c op,.slice d' o' R.cs.length c' op',by rw [← hh2,Tree.get_set,if_pos rfl],?_,?_,?_,hdf⟩,K1.trans hn1 (Keep.put I1 ht (noPart (by simp)) key2 rfl),rfl⟩
  ·exact hks.of fun x hx=>⟨g2 x (by rintro rfl; rw [hd] at hx; cases hx) (by rintro rfl; rw [ht] at hx; cases hx),up hx⟩
  ·exact NumsS.put (k:=.u8) (l:=R.st) (m:=[2]) (j:=p) (up hd) hA b1 b2 (by simp; omega) (by rw [← hh2,Tree.get_set,if_neg (Ne.symm dh),Tree.get_set,if_pos rfl]; rfl)
  ·exact ⟨d',o',c',op',A',es',rfl,up hd',by rw [g2 d' (Ne.symm dd) dh']; exact hgd',hA',c1,c2⟩
theorem hashLen_ok {τ:Gh} {h:Heap} {n hb j:Nat} {R:HashR} (I:TInv τ h n) (ht:τ hb=some (.hash j R)) :
  CallK CC 104 [.ptr hb 0] h n fun v h' n'=>v=.s (.int .i64 R.n)∧h'=h:=by
 refine F104_call fun hlt=>?_
 rw [F104_eq]
 obtain ⟨ks,st,cs,H⟩:=HashAt.of_inv I ht
 have hg:=H.hg
 simp [cellsAt,hg]
end Go.Ev
end
section
namespace Go.Ev
open Proofs
set_option maxRecDepth 20000
theorem cut_ok {x hi:Nat} (h1:1≤x) (h2:x≤hi) (h:Heap) (n:Nat):CallK CC 155 [.s (.int .i64 (x:Nat)),.s (.int .i64 (hi:Nat))] h n fun v h' n'=>v=.s (.int .i64 (x:Nat))∧h'=h:=by
 refine F155_call fun hlt=>?_
 rw [F155_eq]
 have e1:maxW (x:Int) 1=x:=by unfold maxW; split <;> omega
 have e2:minW (x:Int) (hi:Int)=x:=by unfold minW; split <;> omega
 simp [e1,e2]
def placesG (mx:Nat):Nat→Nat→Nat
 | 0,p=>p
 | f+1,p=>if p<2*mx then placesG mx f (p*2) else p
def placesF (mx:Nat):Nat:=placesG mx 8 1
theorem placesG_end {mx:Nat} {f p:Nat} (h:¬ p<2*mx):placesG mx f p=p:=by
 cases f with
 | zero=>rfl
 | succ f=>unfold placesG; rw [if_neg h]
theorem placesF_le {mx:Nat} (h:mx≤64):1≤placesF mx∧placesF mx≤256∧2*mx≤placesF mx:=by
 simp only [placesF,placesG]
 repeat' split
 all_goals omega
theorem places_loop {hb mx:Nat} (h64:mx≤64) {key:V} {Q:X→St→Prop} {h:Heap} (hg:h.get hb=some (.cells (.lst [key,.s (.int .i64 (mx:Nat)),.s (.int .i64 0),.s (.slice none 0 0),.s (.slice none 0 0),.s (.slice none 0 0)]) 6))
  {n0:Nat} (hQ:∀ (n:Nat) s,n0≤n→F101_L111000 (.ptr hb 0) (.s (.int .i64 (placesF mx:Nat))) h n s→Q (.exit 0) s) :
  ∀ m s,(∃ p n f,m=2*mx-p∧1≤p∧p*2 ^ f=256∧placesG mx f p=placesF mx∧n0≤n∧F101_L111000 (.ptr hb 0) (.s (.int .i64 (p:Nat))) h n s) →
   LoopK CC none (subC [1,1,1,0,0,0] (bodyOf Tryz.f101)) s Q:=by
 refine loopH CCok _ ?_
 rintro m s ⟨p,n,f,hm,h1,h2,hf,hn,hs⟩ hlt
 obtain ⟨g,rfl⟩:=hs
 rw [F101_b111000]
 obtain ⟨M2,hM2⟩:∃ M2:Nat,M2=2*mx:=⟨_,rfl⟩
 have e1:wrapF .i64 (2*(mx:Int))=(M2:Int):=by rw [wrapF_i64 (by omega) (by omega)]; omega
 have hp256:p≤256:=by rw [← h2]; exact Nat.le_mul_of_pos_right _ (Nat.pow_pos (by omega))
 by_cases hp:p<M2
 ·obtain ⟨p2,hp2⟩:∃ p2:Nat,p2=p*2:=⟨_,rfl⟩
  have e2:wrapF .i64 ((p:Int)*2)=(p2:Int):=by rw [wrapF_i64 (by omega) (by omega)]; omega
  obtain ⟨f,rfl⟩:∃ g,f=g+1:=by
   cases f with
   | zero=>omega
   | succ g=>exact ⟨g,rfl⟩
  unfold placesG at hf
  rw [if_pos (by omega),← hp2] at hf
  rw [Nat.pow_succ,Nat.mul_comm (2 ^ f) 2,← Nat.mul_assoc,← hp2] at h2
  simp [cellsAt,hg,e1,hp,e2,roundQ]
  exact ⟨2*mx-p2,by omega,h,fun hok b o hb=>⟨o,hb,hok b o hb⟩,p2,rfl,by omega,n,f,h2,hf,hn,F101_L111000_of⟩
 ·rw [placesG_end (by omega)] at hf
  simp [cellsAt,hg,e1,hp,roundQ]
  rw [hf]
  exact hQ n _ hn F101_L111000_of
def newH (key mx:Nat):HashR:={ key:=key,mx:=(mx:Nat),n:=0,ks:=List.replicate (placesF mx*key) 0,st:=List.replicate (placesF mx) 0,cs:=List.replicate (placesF mx) 0 }
theorem newH_fine {key mx:Nat} (k1:1≤key) (k16:key≤16) (m64:mx≤64):(newH key mx).Fine:=by
 have:=placesF_le m64
 exact ⟨by simp [newH],by simp [newH],by simpa [newH] using this.1,by simp [newH]; omega,k1,k16,fun x hx=>by have:=List.eq_of_mem_replicate hx; omega⟩
theorem hashNew_ok {τ:Gh} {h:Heap} {n key mx:Nat} (j:Nat) (I:TInv τ h n) (k1:1≤key) (k16:key≤16) (m1:1≤mx) (m64:mx≤64) :
  CallK CC 101 [.s (.int .i64 (key:Nat)),.s (.int .i64 (mx:Nat))] h n fun v h' n'=>Goes noFp τ n h h' n' fun τ'=>∃ b,v=.ptr b 0∧n≤b∧τ' b=some (.hash j (newH key mx)):=by
 refine F101_call fun hlt=>?_
 rw [F101_eq]
 refine CallK.monoN ?_ (cut_ok (hi:=16) k1 k16 h n)
 rintro _ h1 n1 ⟨rfl,rfl⟩ hn1
 refine CallK.monoN ?_ (cut_ok (hi:=64) m1 m64 h1 n1)
 rintro _ h2 n2 ⟨rfl,rfl⟩ hn2
 simp
 refine places_loop (n0:=n2+1) (key:=.s (.int .i64 (key:Nat))) m64 (by rw [Tree.get_set,if_pos rfl]) ?_ _ _ ⟨1,_,8,rfl,by omega,by decide,rfl,Nat.le_refl _,F101_L111000_of⟩
 intro n3 s hn3 hs
 obtain ⟨p1,p256,_⟩:=placesF_le m64
 obtain ⟨p,hpF⟩:∃ p,p=placesF mx:=⟨_,rfl⟩
 rw [← hpF] at p1 p256 hs
 obtain ⟨g,rfl⟩:=hs
 rw [F101_r111000_0]
 obtain ⟨y,hy⟩:∃ y:Nat,y=p*key:=⟨_,rfl⟩
 have hy2:p*key≤256*16:=Nat.mul_le_mul p256 k16
 have e1:wrapF .i64 ((p:Int)*(key:Int))=(y:Int):=by
  have:(p:Int)*(key:Int)=(y:Int):=by rw [hy]; simp
  rw [this,wrapF_i64 (by omega) (by omega)]
 simp [cellsAt,Tree.get_set,e1,ble_dec,blt_dec,show y≤281474976710656 by omega,show y<9223372036854775808 by omega,show p≤281474976710656 by omega,show p<9223372036854775808 by omega,show 8*p≤281474976710656 by omega,show ¬ n2=n3 by omega,show ¬ n2=n3+1 by omega,show ¬ n2=n3+1+1 by omega,storeCells,cellsOwn,Rope.put]
 generalize hh:Tree.set (Tree.set (Tree.set (Tree.set (Tree.set (Tree.set (Tree.set h2 n2 _) n3 _) n2 _) (n3+1) _) n2 _) (n3+1+1) _) n2 _=hf
 have g1:hf.get n2=some (.cells (.lst [.s (.int .i64 (key:Nat)),.s (.int .i64 (mx:Nat)),.s (.int .i64 0),.slice n3 0 y y false,.slice (n3+1) 0 p p false,.slice (n3+1+1) 0 p p false]) 6):=by rw [← hh,Tree.get_set,if_pos rfl]
 have g2:hf.get n3=some (.cells (.lst (List.replicate y (.s (.int .u8 0)))) 1):=by
  rw [← hh]; simp only [Tree.get_set]
  rw [if_neg (by omega),if_neg (by omega),if_neg (by omega),if_neg (by omega),if_neg (by omega),if_pos trivial]
 have g3:hf.get (n3+1)=some (.cells (.lst (List.replicate p (.s (.int .u8 0)))) 1):=by
  rw [← hh]; simp only [Tree.get_set]
  rw [if_neg (by omega),if_neg (by omega),if_neg (by omega),if_pos trivial]
 have g4:hf.get (n3+1+1)=some (.cells (.lst (List.replicate p (.s (.int .i64 0)))) 1):=by
  rw [← hh]; simp only [Tree.get_set]
  rw [if_neg (by omega),if_pos trivial]
 have sm:Same n [] h2 hf:=fun x hx _=>by
  rw [← hh]; simp only [Tree.get_set]
  rw [if_neg (by omega),if_neg (by omega),if_neg (by omega),if_neg (by omega),if_neg (by omega),if_neg (by omega),if_neg (by omega)]
 obtain ⟨τ',hτ⟩:∃ τ':Gh,τ'=fun x=>if x=n2 then some (.hash j (newH key mx)) else if x=n3 then some (.part n2 0) else if x=n3+1 then some (.part n2 1) else if x=n3+1+1 then some (.part n2 2) else τ x:=⟨_,rfl⟩
 have t1:τ' n2=some (.hash j (newH key mx)):=by rw [hτ]; simp
 have t2:τ' n3=some (.part n2 0):=by rw [hτ]; simp only; rw [if_neg (by omega),if_pos trivial]
 have t3:τ' (n3+1)=some (.part n2 1):=by rw [hτ]; simp only; rw [if_neg (by omega),if_neg (by omega),if_pos trivial]
 have t4:τ' (n3+1+1)=some (.part n2 2):=by rw [hτ]; simp only; rw [if_neg (by omega),if_neg (by omega),if_neg (by omega),if_pos trivial]
 have hle:∀ x,x<n→τ' x=τ x:=fun x hx=>by
  rw [hτ]; simp only
  rw [if_neg (by omega),if_neg (by omega),if_neg (by omega),if_neg (by omega)]
 have sm':Same n [] h2 hf:=fun x hx hx'=>sm x (by omega) hx'
 have hyk:p*key=y:=hy.symm
 have I':TInv τ' hf (n3+1+1+1):=I.news (by omega) hle sm' fun b k e hb=>by
  rw [hτ] at e; simp only at e
  split at e
  ·rename_i hb; subst hb; cases e
   refine ⟨by omega,_,_,_,g1,⟨n3,0,y,false,_,_,by simp [newH,← hpF,hyk],t2,g2,?_,by simp [newH,← hpF,hyk],by simp [newH,← hpF,hyk]⟩,⟨n3+1,0,p,false,_,_,by simp [newH,← hpF],t3,g3,?_,by simp [newH,← hpF],by simp [newH,← hpF]⟩,⟨n3+1+1,0,p,false,_,_,by simp [newH,← hpF],t4,g4,?_,by simp [newH,← hpF],by simp [newH,← hpF]⟩,newH_fine k1 k16 m64⟩
   ·simp [newH,← hpF,hyk,kV]
   ·simp [newH,← hpF,kV]
   ·simp [newH,← hpF,kV]
  ·split at e
   ·cases e; exact ⟨by omega,trivial⟩
   ·split at e
    ·cases e; exact ⟨by omega,trivial⟩
    ·split at e
     ·cases e; exact ⟨by omega,trivial⟩
     ·rw [I.none hb] at e; cases e
 exact ⟨τ',I',Keep.news hle sm',by omega,t1⟩
def slotG (R:HashR) (f:Nat):Nat→Nat→Option Nat
 | 0,_=>none
 | m+1,i=>if R.st.getD ((f+i) % R.st.length) 0≠1 then some ((f+i) % R.st.length) else slotG R f m (i+1)
theorem slotG_lt {R:HashR} {f:Nat} (h:0<R.st.length):∀ m i p,slotG R f m i=some p→p<R.st.length
 | 0,_,_,e=>by cases e
 | m+1,i,p,e=>by
  unfold slotG at e
  split at e
  ·cases e; exact Nat.mod_lt _ h
  ·exact slotG_lt h m (i+1) p e
def putG (R:HashR) (k:List Int) (cell:Int):HashR:=match slotG R (firstF R k) R.st.length 0 with
 | some p=>{ R with ks:=splice R.ks (p*R.key) k,st:=splice R.st p [1],cs:=splice R.cs p [cell],n:=wrapF .i64 (R.n+1) }
 | none=>R
theorem putG_fine {R:HashR} {k:List Int} {cell:Int} (F:R.Fine) (hk:k.length=R.key) (hB:Byt k):(putG R k cell).Fine:=by
 unfold putG
 cases hp:slotG R (firstF R k) R.st.length 0 with
 | none=>exact F
 | some p=>
  have hpl:=slotG_lt (by have:=F.p1; omega) _ _ _ hp
  have e:(splice R.st p [1]).length=R.st.length:=splice_length (by simp; omega)
  have e2:(splice R.cs p [cell]).length=R.cs.length:=splice_length (by have:=F.cs; simp; omega)
  have hle:(p+1)*R.key≤R.st.length*R.key:=Nat.mul_le_mul_right _ (by omega)
  rw [Nat.add_mul,← F.ks] at hle
  have e3:(splice R.ks (p*R.key) k).length=R.ks.length:=splice_length (by omega)
  exact ⟨by show (splice R.ks (p*R.key) k).length=(splice R.st p [1]).length*_; rw [e,e3]; exact F.ks,by show (splice R.cs p [cell]).length=(splice R.st p [1]).length; rw [e,e2]; exact F.cs,by show 1≤(splice R.st p [1]).length; rw [e]; exact F.p1,by show (splice R.st p [1]).length≤_; rw [e]; exact F.p2,F.k1,F.k2,F.by_.splice hB⟩
theorem put_way {t0 t1 t2 t3 t4 t5 t6 t7 t8 t9 t10 t11 t12 t13 t14 t15 t16 t17 t18 t19 t20 t21 t22 t23 t24 t25 t26 t27 t28 t29 t30 t31 t32 t33 t34 t35 t36 t37 t38 t39 t40 t41 t42 t43 t44 t45 t46 t47 t48 t49 t50 t51 t52 t53 t54 t55 t56 t57 t58 t59 t60 t61 t62 t63 t64 t65 t66 t67:V} {τ:Gh} {h8:Heap} {m hb b kb hx n3 n4 n5 j:Nat} {cell:Int} {R:HashR} {ks st cs sl:V} {k:List Int} (I:TInv τ h8 m) (ht:τ hb=some (.hash j R)) (H:HashAt τ h8 hb R ks st cs) (hkR:k.length=R.key) (hkB:Byt k) (hbm:hb<m) (hbn:b<m) (hbt:τ b=none) (hs:BytesAt h8 b sl k) (hk:k.length≤4611686018427387904)
  (e3:t3=.ptr n3 0) (g3:h8.get n3=some (.cells (.lst [.ptr hb 0]) 1)) (e4:t4=.ptr n4 0) (g4:h8.get n4=some (.cells (.lst [sl]) 1)) (e5:t5=.ptr n5 0) (g5:h8.get n5=some (.cells (.lst [.s (.int .i64 cell)]) 1))
  (gk:h8.get kb=some (.cells (.lst [sl]) 1)) (gx:h8.get hx=some (.cells (.lst [.ptr hb 0]) 1)) (l3:n3<m) (l4:n4<m) (l5:n5<m) (lk:kb<m) (lx:hx<m) (d3:τ n3=none) (d4:τ n4=none) (d5:τ n5=none) (dk:τ kb=none) (dx:τ hx=none) :
  CallK CC 219 [.yield (m+1),.ptr kb 0,.ptr hx 0] ((h8.set m .defd).set (m+1) (.loop .ready none (mkTm [t0,t1,t2,t3,t4,t5,t6,t7,t8,t9,t10,t11,t12,t13,t14,t15,t16,t17,t18,t19,t20,t21,t22,t23,t24,t25,t26,t27,t28,t29,t30,t31,t32,t33,t34,t35,t36,t37,t38,t39,t40,t41,t42,t43,t44,t45,t46,t47,t48,t49,t50,t51,t52,t53,t54,t55,t56,t57,t58,t59,t60,t61,t62,t63,t64,t65,t66,t67]) [34] (subC [1,1,0,1,0,0] (bodyOf Tryz.f156)) (subC [1,1,0,1,0,1] (bodyOf Tryz.f156)))) (m+2)
   fun _ h' n'=>(∃ ls pend,h'.get (m+1)=some (.loop ls pend (mkTm [t0,t1,t2,t3,t4,t5,t6,t7,t8,t9,t10,t11,t12,t13,t14,t15,t16,t17,t18,t19,t20,t21,t22,t23,t24,t25,t26,t27,t28,t29,t30,t31,t32,t33,t34,t35,t36,t37,t38,t39,t40,t41,t42,t43,t44,t45,t46,t47,t48,t49,t50,t51,t52,t53,t54,t55,t56,t57,t58,t59,t60,t61,t62,t63,t64,t65,t66,t67]) [34] (subC [1,1,0,1,0,0] (bodyOf Tryz.f156)) (subC [1,1,0,1,0,1] (bodyOf Tryz.f156))) ∧
    ((ls=.ready∧pend=none)∨(ls=.done∧pend=some (.exit 1))))∧Goes (onlyFp hb) τ m h8 h' n' (fun τ'=>τ'=upT τ hb (.hash j (putG R k cell)))∧h'.get m=some .defd:=by
 subst e3 e4 e5
 generalize hA:subC [1,1,0,1,0,0] (bodyOf Tryz.f156)=asg
 generalize hB:subC [1,1,0,1,0,1] (bodyOf Tryz.f156)=bd
 generalize hT:mkTm _=T
 generalize hh0:((h8.set m .defd).set (m+1) (.loop .ready none T [34] asg bd))=h0
 have f0:∀ x,x<m→h0.get x=h8.get x:=fun x hx=>by rw [← hh0,Tree.get_set,if_neg (by omega),Tree.get_set,if_neg (by omega)]
 have fm:h0.get m=some .defd:=by rw [← hh0,Tree.get_set,if_neg (by omega),Tree.get_set,if_pos rfl]
 have fl:h0.get (m+1)=some (.loop .ready none T [34] asg bd):=by rw [← hh0,Tree.get_set,if_pos rfl]
 obtain ⟨d,o,c,op,A,es,rfl,hd,hgd,hA',b2,b3⟩:=H.hst
 have hdn:=(I d _ hd).1
 obtain ⟨W,hW⟩:∃ W,W=slotG R (firstF R k) R.st.length 0:=⟨_,rfl⟩
 have hp1:=H.fine.p1
 have hrp:∀ x i,τ x=some (.part hb i)→x<m:=fun x i e=>(I x _ e).1
 refine CallK.mono' ?_ (way1_ok (b:=b) (k:=k) (sl:=sl) (f:=firstF R k) rfl hp1 H.fine.p2 hk (fun i h n=>m+2≤n∧h.get (m+1)=some (.loop .ready none T [34] asg bd)∧Same (m+2) [m+1] h0 h∧W=slotG R (firstF R k) (R.st.length-i) i)
  (fun h n=>h.get (m+1)=some (.loop .done (some (.exit 1)) T [34] asg bd)∧Goes (onlyFp hb) τ m h8 h n (fun τ'=>τ'=upT τ hb (.hash j (putG R k cell)))∧h.get m=some .defd) ?_ ?_ ?_ ?_ ?_ ?_)
 ·rintro _ h' n' (⟨q1,q2,q3,q4⟩ | ⟨q1,q2,q3⟩)
  ·rw [Nat.sub_self] at q4
   have e:putG R k cell=R:=by unfold putG; rw [← hW,q4]; rfl
   have sm:Same m [] h8 h':=fun x hx _=>by rw [q3 x (by omega) (by simp; omega),f0 x hx]
   exact ⟨⟨_,_,q2,.inl ⟨rfl,rfl⟩⟩,⟨τ,I.same sm (by omega),Keep.of_same sm,by rw [e]; exact (upT_id ht).symm⟩,by rw [q3 m (by omega) (by simp),fm]⟩
  ·exact ⟨⟨_,_,q1,.inr ⟨rfl,rfl⟩⟩,q2,q3⟩
 ·rintro _ h n n' ⟨q1,q2⟩ hn; exact ⟨by omega,q2⟩
 ·rintro _ h n ⟨q1,q2,q3,q4⟩
  refine ⟨hb,_,_,_,_,d,o,c,op,_,by rw [q3 hx (by omega) (by simp; omega),f0 hx lx,gx],by rw [q3 hb (by omega) (by simp; omega),f0 hb hbm,H.hg]⟩
 ·rintro i h n hi ⟨q1,q2,q3,q4⟩
  obtain ⟨p,hpe⟩:∃ p,p=(firstF R k+i) % R.st.length:=⟨_,rfl⟩
  have hp:p<R.st.length:=by rw [hpe]; exact Nat.mod_lt _ (by omega)
  rw [show R.st.length-i=(R.st.length-(i+1))+1 by omega,slotG,← hpe] at q4
  rw [← hpe]
  refine F156_R11010 _ (by rw [hT,hA,hB]; exact q2) ?_
  rw [F156_g110101,hT,hA,hB]
  generalize hb1:(h.set (m+1) (.loop .busy none T [34] asg bd))=h1
  have f1:∀ x,x<m→h1.get x=h8.get x:=fun x hx=>by rw [← hb1,Tree.get_set,if_neg (by omega),q3 x (by omega) (by simp; omega),f0 x hx]
  have s1:Same (m+2) [m+1] h0 h1:=fun x hx hf=>by simp at hf; rw [← hb1,Tree.get_set,if_neg hf,q3 x hx (by simpa using hf)]
  have fl1:h1.get (m+1)=some (.loop .busy none T [34] asg bd):=by rw [← hb1,Tree.get_set,if_pos rfl]
  have a3:h1.get n3=some (.cells (.lst [.ptr hb 0]) 1):=by rw [f1 n3 l3,g3]
  have a4:h1.get n4=some (.cells (.lst [sl]) 1):=by rw [f1 n4 l4,g4]
  have a5:h1.get n5=some (.cells (.lst [.s (.int .i64 cell)]) 1):=by rw [f1 n5 l5,g5]
  have I1:TInv τ h1 n:=I.of (by omega) fun x hx _=>f1 x hx
  have hgd1:=(f1 d hdn).trans hgd
  have ah:h1.get hb=some (.cells (.lst [.s (.int .i64 (R.key:Nat)),.s (.int .i64 R.mx),.s (.int .i64 R.n),ks,.slice d o R.st.length c op,cs]) 6):=by rw [f1 hb hbm,H.hg]
  have hx:=num_at hA' hp
  generalize R.st.getD p 0=x at hx q4
  have esl:normV sl=sl:=by rcases hs with ⟨rfl,_⟩ | ⟨_,_,_,_,_,rfl,_⟩ <;> rfl
  have eN:∀ n',endRound .normal (m+1) h1 n'=some (.s (.bool true),h1.set (m+1) (.loop .ready none T [34] asg bd),n'):=by
   intro n'; simp [endRound,fl1,jumpOf]
  have pN:(h1.set (m+1) (.loop .ready none T [34] asg bd)).get (m+1)=some (.loop .ready none T [34] asg bd)∧Same (m+2) [m+1] h0 (h1.set (m+1) (.loop .ready none T [34] asg bd)):=by
   refine ⟨by rw [Tree.get_set,if_pos rfl],fun z hz hf=>?_⟩
   simp at hf
   rw [Tree.get_set,if_neg hf,s1 z hz (by simpa using hf)]
  by_cases x1:x=1
  ·rw [if_neg (fun h=>h x1)] at q4
   simp [cellsAt,a3,ah,hgd1,hx,hp,blt_dec,x1,eN]
   exact ⟨q1,pN.1,pN.2,q4⟩
  ·rw [if_pos x1] at q4
   simp [cellsAt,a3,ah,hgd1,hx,hp,blt_dec,x1,a4,esl]
   have HH:HashAt τ h1 hb R ks (.slice d o R.st.length c op) cs:=H.of fun y hy=>f1 y (by rcases hy with rfl | ⟨i,hy⟩; exact hbm; exact hrp y i hy)
   refine CallK.monoN ?_ (hashAt_ok (n:=n+5) HH hp)
   rintro v h2' n2' ⟨rfl,e2'⟩ hn2
   obtain rfl:h1=h2':=e2'.symm
   obtain ⟨dk,ok,ck,opk,Ak,esk,rfl,hdk,hgdk,hAk,k2,k3⟩:=HH.hks
   obtain ⟨dc,oc,cc,opc,Ac,esc,rfl,hdc,hgdc,hAc,c2,c3⟩:=HH.hcs
   have hle:(p+1)*R.key≤R.st.length*R.key:=Nat.mul_le_mul_right _ (by omega)
   rw [Nat.add_mul,← H.fine.ks] at hle
   have hcl:=H.fine.cs
   have ndd:∀ {x y i},τ y=some (.part hb i)→τ x=none→x≠y:=fun h1 h2 e=>by rw [e,h1] at h2; cases h2
   have ndh:∀ {y i},τ y=some (.part hb i)→hb≠y:=fun h1 e=>by rw [← e,ht] at h1; cases h1
   have ndp:∀ {x y i i'},τ x=some (.part hb i)→τ y=some (.part hb i')→i≠i'→x≠y:=fun h1 h2 h3 e=>by rw [e,h2] at h1; cases h1; exact h3 rfl
   simp [a4,esl,hkey]
   refine copy_ok (by omega) hgdk (by omega) (hs.of (f1 b hbn)).row fun h2 hg2 hs2=>?_
   rw [show (bytesV' k).take (min k.length R.key*1)=kV .u8 k by rw [kV_u8]; exact List.take_of_length_le (by rw [hkR]; simp [hkR])] at hg2
   have ah2:=(hs2 hb (ndh hdk)).trans ah
   have a32:=(hs2 n3 (ndd hdk d3)).trans a3
   have a52:=(hs2 n5 (ndd hdk d5)).trans a5
   have fl2:=(hs2 (m+1) (by have:=(I dk _ hdk).1; omega)).trans fl1
   have hgd2:=(hs2 d (ndp hd hdk (by omega))).trans hgd1
   have hgdc2:=(hs2 dc (ndp hdc hdk (by omega))).trans hgdc
   have e6:storeCells h2 d (o+p) (.one (.s (.int .u8 1)))=some (h2.set d (.cells (.lst (splice A (o+p) [.s (.int .u8 1)])) es)):=storeCells_lst hgd2 (by show o+p+1≤A.length; omega)
   simp [cellsAt,a32,ah2,a52,hp,blt_dec,e6]
   generalize hh3:h2.set d (.cells (.lst (splice A (o+p) [.s (.int .u8 1)])) es)=h3
   have hs3:∀ x,x≠d→h3.get x=h2.get x:=fun x hx=>by rw [← hh3,Tree.get_set,if_neg hx]
   have hgd3:h3.get d=some (.cells (.lst (splice A (o+p) [.s (.int .u8 1)])) es):=by rw [← hh3,Tree.get_set,if_pos rfl]
   have a53:=(hs3 n5 (ndd hd d5)).trans a52
   have a33:=(hs3 n3 (ndd hd d3)).trans a32
   have ah3:=(hs3 hb (ndh hd)).trans ah2
   have fl3:=(hs3 (m+1) (by omega)).trans fl2
   have hgdc3:=(hs3 dc (ndp hdc hd (by omega))).trans hgdc2
   have e7:storeCells h3 dc (oc+p) (.one (.s (.int .i64 cell)))=some (h3.set dc (.cells (.lst (splice Ac (oc+p) [.s (.int .i64 cell)])) esc)):=storeCells_lst hgdc3 (by show oc+p+1≤Ac.length; omega)
   simp [a53,show p<R.cs.length by omega,e7]
   generalize hh4:h3.set dc (.cells (.lst (splice Ac (oc+p) [.s (.int .i64 cell)])) esc)=h4
   have hs4:∀ x,x≠dc→h4.get x=h3.get x:=fun x hx=>by rw [← hh4,Tree.get_set,if_neg hx]
   have hgdc4:h4.get dc=some (.cells (.lst (splice Ac (oc+p) [.s (.int .i64 cell)])) esc):=by rw [← hh4,Tree.get_set,if_pos rfl]
   have a34:=(hs4 n3 (ndd hdc d3)).trans a33
   have ah4:=(hs4 hb (ndh hdc)).trans ah3
   have fl4:=(hs4 (m+1) (by have:=(I dc _ hdc).1; omega)).trans fl3
   simp [cellsAt,a34,ah4,storeCells,cellsOwn,Rope.put,ble_dec]
   generalize hh5:h4.set hb (.cells (.lst [.s (.int .i64 (R.key:Nat)),.s (.int .i64 R.mx),.s (.int .i64 (wrapF .i64 (R.n+1))),.slice dk ok R.ks.length ck opk,.slice d o R.st.length c op,.slice dc oc R.cs.length cc opc]) 6)=h5
   have g5:∀ x,x≠hb→x≠dk→x≠d→x≠dc→h5.get x=h1.get x:=fun x e1 e2 e3 e4=>by rw [← hh5,Tree.get_set,if_neg e1,hs4 x e4,hs3 x e3,hs2 x e2]
   have fl5:h5.get (m+1)=some (.loop .busy none T [34] asg bd):=by rw [← hh5,Tree.get_set,if_neg (by omega),fl4]
   simp [endRound,fl5,jumpOf]
   have eP:putG R k cell={ R with ks:=splice R.ks (p*R.key) k,st:=splice R.st p [1],cs:=splice R.cs p [cell],n:=wrapF .i64 (R.n+1) }:=by unfold putG; rw [← hW,q4]
   have hdn':∀ {y i},τ y=some (.part hb i)→y<m:=fun h=>(I _ _ h).1
   have key5:∀ x,x<m→x≠hb→(∀ i,τ x≠some (.part hb i))→(h5.set (m+1) (.loop .done (some (.exit 1)) T [34] asg bd)).get x=h8.get x:=fun x hx e1 e2=>by
    rw [Tree.get_set,if_neg (by omega),g5 x e1 (by rintro rfl; exact e2 _ hdk) (by rintro rfl; exact e2 _ hd) (by rintro rfl; exact e2 _ hdc),f1 x hx]
   have up:∀ {x i},τ x=some (.part hb i)→upT τ hb (.hash j (putG R k cell)) x=some (.part hb i):=fun {x i} hx=>by rw [upT_other (Ne.symm (ndh hx))]; exact hx
   refine ⟨by rw [Tree.get_set,if_pos rfl],⟨_,I.put (k':=.hash j (putG R k cell)) (by omega) ht (noPart (by simp)) (noPart (by simp)) key5 ⟨.slice dk ok R.ks.length ck opk,.slice d o R.st.length c op,.slice dc oc R.cs.length cc opc,?_,?_,?_,?_,putG_fine H.fine hkR hkB⟩,Keep.put I ht (noPart (by simp)) key5 rfl,rfl⟩,?_⟩
   ·rw [Tree.get_set,if_neg (by omega),← hh5,Tree.get_set,if_pos rfl,eP]
   ·rw [eP] at up ⊢
    refine NumsS.put (k:=.u8) (l:=R.ks) (m:=k) (j:=p*R.key) (up hdk) hAk k2 k3 (by omega) (es:=esk) ?_
    rw [Tree.get_set,if_neg (by have:=hdn' hdk; omega),← hh5,Tree.get_set,if_neg (Ne.symm (ndh hdk)),hs4 dk (ndp hdk hdc (by omega)),hs3 dk (ndp hdk hd (by omega)),hg2]
   ·rw [eP] at up ⊢
    refine NumsS.put (k:=.u8) (l:=R.st) (m:=[1]) (j:=p) (up hd) hA' b2 b3 (by simp; omega) (es:=es) ?_
    rw [Tree.get_set,if_neg (by omega),← hh5,Tree.get_set,if_neg (Ne.symm (ndh hd)),hs4 d (ndp hd hdc (by omega)),hgd3]
    rfl
   ·rw [eP] at up ⊢
    refine NumsS.put (k:=.i64) (l:=R.cs) (m:=[cell]) (j:=p) (up hdc) hAc c2 c3 (by simp; omega) (es:=esc) ?_
    rw [Tree.get_set,if_neg (by have:=hdn' hdc; omega),← hh5,Tree.get_set,if_neg (Ne.symm (ndh hdc)),hgdc4]
    rfl
   ·rw [Tree.get_set,if_neg (by omega),g5 m (by omega) (by have:=hdn' hdk; omega) (by omega) (by have:=hdn' hdc; omega),s1 m (by omega) (by simp),fm]
 ·rw [f0 kb lk,gk]
 ·exact hs.of (f0 b hbn)
 ·exact ⟨by omega,fl,Same.refl _ _ _,by rw [Nat.sub_zero]; exact hW⟩
end Go.Ev
end
section
namespace Go.Ev
open Proofs
set_option maxRecDepth 20000
def putF (R:HashR) (k:List Int) (cell:Int):HashR:=if k.length=R.key∧placeF R k=none∧¬ R.n=R.mx then putG R k cell else R
theorem hashPut_ok {τ:Gh} {h:Heap} {n hb b j:Nat} {R:HashR} {sl:V} {k:List Int} (cell:Int) (I:TInv τ h n) (ht:τ hb=some (.hash j R)) (hkB:Byt k) (hbn:b<n) (hbt:τ b=none) (hs:BytesAt h b sl k) (hk:k.length≤4611686018427387904) :
  CallK CC 156 [.ptr hb 0,sl,.s (.int .i64 cell)] h n fun v h' n'=>Goes (onlyFp hb) τ n h h' n' fun τ'=>τ'=upT τ hb (.hash j (putF R k cell)):=by
 refine F156_call fun hlt=>?_
 rw [F156_eq]
 obtain ⟨ks,st,cs,H⟩:=HashAt.of_inv I ht
 have hbn':hb<n:=(I hb _ ht).1
 have esl:V.cells sl=some (.one sl)∧normV sl=sl:=by rcases hs with ⟨rfl,_⟩ | ⟨_,_,_,_,_,rfl,_⟩ <;> exact ⟨rfl,rfl⟩
 have hlen:=hs.len
 have hg:=H.hg
 simp only [esl,oK_some,cells_ptr,cells_int,Rope.toList_one]
 generalize hh:(((h.set n (.cells (.lst [.ptr hb 0]) 1)).set (n+1) (.cells (.lst [sl]) 1)).set (n+1+1) (.cells (.lst [.s (.int .i64 cell)]) 1))=h7
 have hs7:Same n [] h h7:=fun x hx _=>by rw [← hh,Tree.get_set,if_neg (by omega),Tree.get_set,if_neg (by omega),Tree.get_set,if_neg (by omega)]
 have g0:h7.get n=some (.cells (.lst [.ptr hb 0]) 1):=by rw [← hh,Tree.get_set,if_neg (by omega),Tree.get_set,if_neg (by omega),Tree.get_set,if_pos rfl]
 have g1:h7.get (n+1)=some (.cells (.lst [sl]) 1):=by rw [← hh,Tree.get_set,if_neg (by omega),Tree.get_set,if_pos rfl]
 have g2:h7.get (n+1+1)=some (.cells (.lst [.s (.int .i64 cell)]) 1):=by rw [← hh,Tree.get_set,if_pos rfl]
 have I7:TInv τ h7 (n+1+1+1+8):=I.same hs7 (by omega)
 have hg7:h7.get hb=h.get hb:=hs7 hb hbn' (by simp)
 have hpn:∀ x,(x=hb∨∃ i,τ x=some (.part hb i))→x<n:=fun x hx=>by rcases hx with rfl | ⟨i,hx⟩; exact hbn'; exact (I x _ hx).1
 have H7:=H.of fun x hx=>hs7 x (hpn x hx) (by simp)
 rw [hg] at hg7
 have sb7:=hs.of (hs7 b hbn (by simp))
 simp [cellsAt,g0,g1,hg7,hlen,esl]
 have fin:∀ h' n',n≤n'→Same n [] h h'→putF R k cell=R→Goes (onlyFp hb) τ n h h' n' fun τ'=>τ'=upT τ hb (.hash j (putF R k cell)):=fun h' n' hn s e=>⟨τ,I.same s hn,Keep.of_same s,by rw [e]; exact (upT_id ht).symm⟩
 by_cases hkR:k.length=R.key
 ·simp [hkR]
  refine CallK.monoN ?_ (hplace_ok I7 ht H7 (by omega) sb7 hkB hk)
  rintro _ h8 n8 ⟨rfl,hs8⟩ hn8
  have e8:∀ x,x<n+1+1+1+8→h8.get x=h7.get x:=fun x hx=>hs8 x hx (by simp)
  have smx:Same n [] h h8:=fun x hx _=>by rw [e8 x (by omega),hs7 x hx (by simp)]
  cases hpF:placeF R k with
  | some p=>
   simp [placeI]
   exact fin _ _ (by omega) smx (by unfold putF; rw [hpF]; simp)
  | none=>
   have q0:=(e8 n (by omega)).trans g0
   have q1:=(e8 (n+1) (by omega)).trans g1
   have q2:=(e8 (n+1+1) (by omega)).trans g2
   have qh:=(e8 hb (by omega)).trans hg7
   simp [placeI,cellsAt,q0,q1,qh,esl]
   by_cases hnm:R.n=R.mx
   ·simp [hnm]
    exact fin _ _ (by omega) smx (by unfold putF; rw [hpF]; simp [hnm])
   ·simp [hnm]
    have ePF:putF R k cell=putG R k cell:=by unfold putF; rw [hpF]; simp [hkR,hnm]
    rw [ePF]
    refine CallK.monoN ?_ (way_ok (sb7.of (e8 b (by omega))))
    rintro _ h9 n9 ⟨⟨kb,hx,rfl,k1,k2,k3,k4,k5,k6⟩,hs9⟩ hn9
    have e9:∀ x,x<n+1+1+1+8→h9.get x=h7.get x:=fun x hx=>by rw [hs9 x (by omega) (by simp),e8 x hx]
    have I9:TInv τ h9 n9:=I7.of (by omega) fun x hx _=>e9 x hx
    have sm9:Same n [] h h9:=fun x hx _=>by rw [e9 x (by omega),hs7 x hx (by simp)]
    refine F156_E11010 rfl ?_
    refine CallK.monoN ?_ (put_way (b:=b) (cell:=cell) I9 ht (H7.of fun x hx=>e9 x (by have:=hpn x hx; omega)) hkR hkB (by omega) (by omega) hbt (sb7.of (e9 b (by omega))) hk
     rfl ((e9 n (by omega)).trans g0) rfl ((e9 (n+1) (by omega)).trans g1) rfl ((e9 (n+1+1) (by omega)).trans g2) k5 k6 (by omega) (by omega) (by omega) k3 k4
     (I.none (by omega)) (I.none (by omega)) (I.none (by omega)) (I.none (by omega)) (I.none (by omega)))
    rintro _ h10 n10 ⟨⟨ls,pend,w1,w2⟩,⟨τ',I10,K10,rfl⟩,w5⟩ hn10
    have tl:τ (n9+1)=none:=I.none (by omega)
    have tm:τ n9=none:=I.none (by omega)
    have tl':∀ x,n9≤x→upT τ hb (.hash j (putG R k cell)) x=none:=fun x hx=>by rw [upT_other (by omega)]; exact I.none (by omega)
    have fin2:∀ ob,Goes (onlyFp hb) τ n h (Tree.del (Tree.set h10 (n9+1) ob) n9) n10 fun τ'=>τ'=upT τ hb (.hash j (putG R k cell)):=fun ob=>by
     have g:∀ x,x≠n9+1→x≠n9→(Tree.del (Tree.set h10 (n9+1) ob) n9).get x=h10.get x:=fun x h1 h2=>by rw [Tree.get_del,if_neg h2,Tree.get_set,if_neg h1]
     have K0:Keep (onlyFp hb) τ τ n h h9:=Keep.of_same sm9
     have K2:=K0.trans (by omega) K10
     refine ⟨_,I10.of (Nat.le_refl _) fun x hx hxt=>g x (by rintro rfl; exact hxt (tl' _ (by omega))) (by rintro rfl; exact hxt (tl' _ (by omega))),⟨K2.ty,fun x hx e=>⟨(K2.non x hx e).1,?_⟩,fun b k x hb hx e h1 h2 h3=>?_⟩,rfl⟩
     ·rw [g x (by omega) (by omega)]; exact (K2.non x hx e).2
     ·rw [g x (by omega) (by omega)]; exact K2.mem b k x hb hx e h1 h2 h3
    rcases w2 with ⟨rfl,rfl⟩ | ⟨rfl,rfl⟩
    ·simp only [endLoop,w1,Option.bind_some,oK_some]
     rw [F156_r11010]
     generalize (O.loop .exhausted none _ _ _ _)=ob
     simp [dropDefs,Tree.get_set,w5]
     exact fin2 ob
    ·simp only [endLoop,w1,Option.bind_some,oK_some]
     rw [F156_r11010_1]
     generalize (O.loop .exhausted (some (.exit 1)) _ _ _ _)=ob
     simp [dropDefs,Tree.get_set,w5]
     exact fin2 ob
 ·have hkR':¬ (k.length:Int)=(R.key:Int):=by omega
  simp [hkR']
  exact fin _ _ (by omega) hs7 (by unfold putF; simp [hkR])
def KeysIn (n0 n a:Nat) (h:Heap) (vs:List V) (ks:List (List Int)):Prop:=vs.length=ks.length∧∀ (i:Nat) (k:List Int),ks[i]? = some k→∃ b,vs[i]? = some (V.slice b 0 k.length k.length true)∧n0≤b∧b<n∧b≠a∧h.get b=some (.cells (.lst (bytesV' k)) 1)
theorem KeysIn.nil (n0 n a:Nat) (h:Heap):KeysIn n0 n a h [] []:=⟨rfl,fun i k e=>by simp at e⟩
theorem KeysIn.snoc {n0 n n' a a' b:Nat} {h h':Heap} {vs:List V} {ks:List (List Int)} {k:List Int} (H:KeysIn n0 n a h vs ks) (hn:n≤n') (ha:a'=a∨n≤a') (e:∀ x,x<n→x≠a→h'.get x=h.get x) (hb:n0≤b) (hbn:b<n') (hba:b≠a') (hg:h'.get b=some (.cells (.lst (bytesV' k)) 1)) :
  KeysIn n0 n' a' h' (vs++[.slice b 0 k.length k.length true]) (ks++[k]):=by
 obtain ⟨h1,h2⟩:=H
 refine ⟨by simp [h1],fun i k' hi=>?_⟩
 by_cases hl:i<ks.length
 ·rw [List.getElem?_append_left hl] at hi
  obtain ⟨b',q1,q2,q3,q4,q5⟩:=h2 i k' hi
  exact ⟨b',by rw [List.getElem?_append_left (by omega)]; exact q1,q2,by omega,by omega,by rw [e b' q3 q4]; exact q5⟩
 ·have:i=ks.length:=by
   have:=(List.getElem?_eq_some_iff.1 hi).1
   simp at this; omega
  subst this
  rw [List.getElem?_append_right (Nat.le_refl _),Nat.sub_self] at hi
  simp at hi
  subst hi
  exact ⟨b,by rw [List.getElem?_append_right (by omega),h1]; simp,hb,hbn,hba,hg⟩
theorem bclone_ok {b:Nat} {sl:V} {l:List Int} {h:Heap} {n:Nat} (hb:b<n) (hs:BytesAt h b sl l) (hl:l.length≤140737488355000) (h1:1≤l.length) :
  CallK CC 114 [sl] h n fun v h' n'=>∃ a,v=.slice a 0 l.length l.length true∧n≤a∧a<n'∧h'.get a=some (.cells (.lst (bytesV' l)) 1)∧Same n [] h h':=by
 refine F114_call fun hlt=>?_
 rw [F114_eq]
 rcases hs with ⟨rfl,h2,h3⟩ | ⟨o,c,op,A,es,rfl,h2,h3,h4⟩
 ·omega
 ·have hs:BytesAt (h.set n (.cells (.lst []) 1)) b (.slice b o l.length c op) l:=SliceAt.of (.inr ⟨o,c,op,A,es,rfl,h2,h3,h4⟩) (by rw [Tree.get_set,if_neg (by omega)])
  simp
  refine append_new (cs:=bytesV' l) (old:=[]) (by omega) hs.row (.row (A:=[]) (es:=1) (by simp [cellsAt,Tree.get_set]) rfl rfl) (by omega) (by omega) fun h' h5 h6=>?_
  refine ⟨n+1,by simp,by omega,by omega,by simpa using h5,fun b' hb' _=>by rw [h6 b' (by omega),Tree.get_set,if_neg (by omega)]⟩
def keysH (R:HashR) (m:Nat):List (List Int):=((List.range m).filter fun p=>R.st.getD p 0=1).map (keyAt R)
theorem keysH_succ (R:HashR) (m:Nat):keysH R (m+1)=keysH R m++(if R.st.getD m 0=1 then [keyAt R m] else []):=by
 simp only [keysH,List.range_succ,List.filter_append,List.map_append]
 congr 1
 by_cases h:R.st.getD m 0=1
 ·rw [List.filter_cons,if_pos (by simpa using h),if_pos h]; rfl
 ·rw [List.filter_cons,if_neg (by simpa using h),if_neg h]; rfl
theorem keysH_len (R:HashR) (m:Nat):(keysH R m).length≤m:=by
 simp only [keysH,List.length_map]
 exact Nat.le_trans (List.length_filter_le _ _) (by simp)
def KeysAt (n0 n:Nat) (h:Heap) (v:V) (ks:List (List Int)):Prop:=∃ a vs,GrowAt h a v 1 ks.length vs∧Off0 v∧KeysIn n0 n a h vs ks∧n0≤a∧(a<n∨v=.s (.slice none 0 0))
theorem hkeys_loop {τ:Gh} {hb n0 j:Nat} {h0:Heap} {R:HashR} {d o c:Nat} {op:Bool} {ks cs:V} (I0:TInv τ h0 n0) (ht:τ hb=some (.hash j R)) (H:HashAt τ h0 hb R ks (.slice d o R.st.length c op) cs) {Q:X→St→Prop}
  (hQ:∀ t3 t11 h n s,F246_L110100 (.ptr hb 0) t3 (.slice d o R.st.length c op) (.s (.int .i64 R.st.length)) t11 h n s→n0≤n→KeysAt n0 n h t3 (keysH R R.st.length)→Same n0 [] h0 h→Q (.exit 0) s) :
  ∀ m s,(∃ (i:Nat) (t3:V) (h:Heap) (n:Nat),m=R.st.length-i∧i≤R.st.length∧F246_L110100 (.ptr hb 0) t3 (.slice d o R.st.length c op) (.s (.int .i64 R.st.length)) (.s (.int .i64 i)) h n s∧n0≤n∧KeysAt n0 n h t3 (keysH R i)∧Same n0 [] h0 h) →
   LoopK CC none (subC [1,1,0,1,0,0] (bodyOf Tryz.f246)) s Q:=by
 refine loopH CCok _ ?_
 rintro m s ⟨i,t3,h,n,hm,hi,hs,hn,⟨a,vs,hG,h00,hK,ha,hor⟩,hsame⟩ hlt
 obtain ⟨g',rfl⟩:=hs
 rw [F246_b110100]
 replace hlt:∀ b o,h.get b=some o→b<n:=hlt
 have hp2:=H.fine.p2
 have I:TInv τ h n:=I0.same hsame hn
 by_cases hi':i<R.st.length
 ·have e3:wrapF .i64 ((i:Int)+1)=((i+1:Nat):Int):=by rw [wrapF_i64 (by omega) (by omega)]; rfl
  have H1:HashAt τ h hb R ks (.slice d o R.st.length c op) cs:=H.of fun x hx=>hsame x (by rcases hx with rfl | ⟨i,hx⟩; exact (I0 x _ ht).1; exact (I0 x _ hx).1) (by simp)
  obtain ⟨d',o',c',op',A,es,e0,hd,hgd,hA,h2,h3⟩:=H1.hst
  cases e0
  have hx:=num_at hA hi'
  have hsucc:=keysH_succ R i
  have hkl:=keysH_len R i
  generalize R.st.getD i 0=x at hx hsucc
  simp [hi',blt_dec,cellsAt,hgd,hx]
  by_cases x1:x=1
  ·simp [x1]
   rw [if_pos x1] at hsucc
   refine CallK.monoN ?_ (hashAt_ok H1 hi')
   rintro _ h1 n1 ⟨rfl,e1⟩ hn1
   obtain rfl:h=h1:=e1.symm
   obtain ⟨dk,hdk,hbk⟩:=H1.key hi'
   have hkl2:=keyAt_len H1.fine hi'
   have k1:=H1.fine.k1
   have k2:=H1.fine.k2
   refine CallK.monoN ?_ (bclone_ok (n:=n1) (by have:=(I dk _ hdk).1; omega) hbk (by omega) (by omega))
   rintro _ h4 n4 ⟨b,rfl,b1,b2,b3,b4⟩ hn4
   simp
   generalize hw:V.slice b 0 (keyAt R i).length (keyAt R i).length true=w
   have hrow:Row (h4.set n4 (.cells (.lst [w]) 1)) 1 1 [w] (.slice n4 0 1 1 false):=.row (A:=[w]) (es:=1) (by simp [cellsAt,Tree.get_set]) rfl rfl
   have hsz:(2*((keysH R i).length+1)+192)*24≤281474976710656:=by omega
   obtain ⟨a2,c1,c2,hG',hK'⟩:∃ a2,n0≤a2∧a2<n4+1∧GrowAt (h4.set n4 (.cells (.lst [w]) 1)) a2 t3 1 (keysH R i).length vs∧KeysIn n0 n a2 (h4.set n4 (.cells (.lst [w]) 1)) vs (keysH R i)∧(a2=n4∨a2<n):=by
    have gk:∀ x,x<n→(h4.set n4 (.cells (.lst [w]) 1)).get x=h.get x:=fun x hx=>by rw [Tree.get_set,if_neg (by omega),b4 x (by omega) (by simp)]
    rcases hG with ⟨q1,q2,q3⟩ | ⟨o,k,op,A,q1,q2,q3,q4⟩
    ·have:keysH R i=[]:=List.length_eq_zero_iff.1 q2
     subst q3
     rw [this]
     exact ⟨n4,by omega,by omega,.inl ⟨q1,rfl,rfl⟩,KeysIn.nil _ _ _ _,.inl rfl⟩
    ·have:=hlt _ _ q3
     exact ⟨a,ha,by omega,.inr ⟨o,k,op,A,q1,q2,by rw [gk a this]; exact q3,q4⟩,⟨hK.1,fun i k e=>by obtain ⟨b,r1,r2,r3,r4,r5⟩:=hK.2 i k e; exact ⟨b,r1,r2,r3,r4,by rw [gk b r3]; exact r5⟩⟩,.inr this⟩
   obtain ⟨hK',ha2⟩:=hK'
   refine grow0_ok (m:=1) (new:=[w]) (by decide) hG' hrow c2 hsz ?_
   intro v' a' h6 n6 ha' han' hn6 hG6 hs6 h06
   simp [roundQ]
   have hK6:KeysIn n0 n6 a' h6 (vs++[w]) (keysH R (i+1)):=by
    rw [hsucc,← hw]
    refine hK'.snoc (by omega) (by omega) (fun x hx hxa=>hs6 x hxa (by omega)) (by omega) (by omega) (by omega) ?_
    rw [hs6 b (by omega) (by omega),Tree.get_set,if_neg (by omega),b3]
   exact ⟨R.st.length-(i+1),by omega,h6,fun hok b o hb=>⟨o,hb,hok b o hb⟩,i+1,rfl,by omega,v',h6,n6,by rw [e3]; exact F246_L110100_of,by omega,⟨a',vs++[w],by rw [hsucc]; simpa using hG6,h06 h00,hK6,by omega,.inl han'⟩,fun x hx _=>by rw [hs6 x (by omega) (by omega),Tree.get_set,if_neg (by omega),b4 x (by omega) (by simp),hsame x hx (by simp)]⟩
  ·simp [x1,roundQ]
   rw [if_neg x1,List.append_nil] at hsucc
   exact ⟨R.st.length-(i+1),by omega,h,fun hok b o hb=>⟨o,hb,hok b o hb⟩,i+1,rfl,by omega,t3,h,n,by rw [e3]; exact F246_L110100_of,hn,by rw [hsucc]; exact ⟨a,vs,hG,h00,hK,ha,hor⟩,hsame⟩
 ·have:i=R.st.length:=by omega
  subst this
  simp [roundQ]
  exact hQ _ _ h n _ F246_L110100_of hn ⟨a,vs,hG,h00,hK,ha,hor⟩ hsame
theorem hashKeys_ok {τ:Gh} {h:Heap} {n hb j:Nat} {R:HashR} (I:TInv τ h n) (ht:τ hb=some (.hash j R)) :
  CallK CC 246 [.ptr hb 0] h n fun v h' n'=>KeysAt n n' h' v (keysH R R.st.length)∧Same n [] h h':=by
 refine F246_call fun hlt=>?_
 rw [F246_eq]
 obtain ⟨ks,st,cs,H⟩:=HashAt.of_inv I ht
 obtain ⟨d,o,c,op,A,es,e0,hd,hgd,hA,h2,h3⟩:=H.hst
 have hg:=H.hg
 subst e0
 simp [cellsAt,hg]
 refine hkeys_loop I ht H ?_ _ _ ⟨0,_,h,n,rfl,by omega,F246_L110100_of,by omega,⟨n,[],GrowAt.nil _ _ _,Off0.nil,KeysIn.nil _ _ _ _,by omega,.inr rfl⟩,Same.refl _ _ _⟩
 intro t3 t11 h' n' s hs hn hK hsame
 obtain ⟨g',rfl⟩:=hs
 rw [F246_r110100_0]
 exact ⟨hK,hsame⟩
end Go.Ev
end
section
namespace Go.Ev
open Proofs
set_option maxRecDepth 20000
theorem CallK.norm {C:Ctx} {f:FuncId} {args:List V} {h:Heap} {n:Nat} {K:V→Heap→Nat→Prop} (hk:CallK C f args h n fun v h' n'=>K v h' n'∨∃ b o,h'.get b=some o∧K v (h'.set b (normOb o)) n'):CallK C f args h n K:=by
 refine ⟨fun ρ w xs h1 h2 h3 h4=>?_⟩
 obtain ⟨k1,k2⟩:=hk.run ρ w xs h1 h2 h3 h4
 refine ⟨k1,fun N=>(k2 N).mono ?_⟩
 rintro e w' ⟨v,h',n',hK | ⟨b,o,hb,hK⟩,ρ',y,rfl,E,hv⟩
 ·exact ⟨v,h',n',hK,ρ',y,rfl,E,hv⟩
 ·exact ⟨v,_,n',hK,ρ',y,rfl,E.norm hb,hv⟩
def rowV (r:List Int×Int):List V:=[.s (.string (ofI r.1)),.s (.int .i64 r.2)]
theorem rowsV_length:∀ l:List (List Int×Int),(rowsV l).length=2*l.length
 | []=>rfl
 | _::l=>by simp [rowsV,rowsV_length l]; omega
theorem rowsV_append:∀ a b:List (List Int×Int),rowsV (a++b)=rowsV a++rowsV b
 | [],_=>rfl
 | _::a,b=>by simp [rowsV,rowsV_append a b]
theorem rowsV_drop:∀ (i:Nat) (l:List (List Int×Int)),(rowsV l).drop (2*i)=rowsV (l.drop i)
 | 0,_=>rfl
 | _+1,[]=>by simp [rowsV]
 | i+1,_::l=>by
  have:=rowsV_drop i l
  simp only [rowsV,List.drop_succ_cons]
  rw [show 2*(i+1)=2*i+1+1 by omega]
  simpa using this
theorem rowsV_take:∀ (i:Nat) (l:List (List Int×Int)),(rowsV l).take (2*i)=rowsV (l.take i)
 | 0,_=>rfl
 | _+1,[]=>by simp [rowsV]
 | i+1,_::l=>by
  have:=rowsV_take i l
  simp only [rowsV,List.take_succ_cons]
  rw [show 2*(i+1)=2*i+1+1 by omega]
  simpa using this
theorem rowsV_at {l:List (List Int×Int)} {i:Nat} (h:i<l.length):((rowsV l).drop (2*i)).take 2=rowV l[i]:=by
 rw [rowsV_drop,List.drop_eq_getElem_cons h]
 rfl
structure LruAt (τ:Gh) (h:Heap) (b key most:Nat) (rows:List (List Int×Int)) (v:V):Prop where
 hg:h.get b=some (.cells (.lst [.s (.int .i64 (key:Nat)),.s (.int .i64 (most:Nat)),v]) 3)
 hr:RowsS τ h b v rows
 k16:key≤16
 l1:rows.length≤most
 m1:1≤most
 m2:most≤64
 by_:∀ r∈rows,Byt r.1∧r.1.length≤16
theorem LruAt.of_inv {τ:Gh} {h:Heap} {n b j key most:Nat} {rows:List (List Int×Int)} (I:TInv τ h n) (hb:τ b=some (.lru j key most rows)):∃ v,LruAt τ h b key most rows v:=by
 obtain ⟨_,v,h1,h2,h3,h4,h5,h6,h7⟩:=I b _ hb
 exact ⟨v,h1,h2,h3,h4,h5,h6,h7⟩
theorem LruAt.of {τ:Gh} {h h':Heap} {n b key most:Nat} {rows:List (List Int×Int)} {v:V} (H:LruAt τ h b key most rows v) (I:TInv τ h n) (hb:b<n) (e:∀ x,x<n→h'.get x=h.get x):LruAt τ h' b key most rows v:=
 ⟨by rw [e b hb]; exact H.hg,H.hr.of fun x hx=>⟨e x (I x _ hx).1,hx⟩,H.k16,H.l1,H.m1,H.m2,H.by_⟩
theorem row_at {A:List V} {o i:Nat} {rows:List (List Int×Int)} (hA:(A.drop o).take (2*rows.length)=rowsV rows) (ho:o+2*rows.length≤A.length) (hi:i<rows.length) :
  (A.drop (o+i*2)).take 2=rowV rows[i]∧A[o+i*2]? = some (.s (.string (ofI rows[i].1)))∧A[o+i*2+1]? = some (.s (.int .i64 rows[i].2)):=by
 have e:(A.drop (o+i*2)).take 2=rowV rows[i]:=by
  rw [← rowsV_at hi,← hA,List.drop_take,List.take_take,List.drop_drop,Nat.mul_comm i 2]
  congr 1; omega
 refine ⟨e,?_,?_⟩
 ·have:((A.drop (o+i*2)).take 2)[0]? = some (.s (.string (ofI rows[i].1))):=by rw [e]; rfl
  rw [List.getElem?_take_of_lt (by omega),List.getElem?_drop] at this
  exact this
 ·have:((A.drop (o+i*2)).take 2)[1]? = some (.s (.int .i64 rows[i].2)):=by rw [e]; rfl
  rw [List.getElem?_take_of_lt (by omega),List.getElem?_drop] at this
  exact this
theorem lruNew_ok {τ:Gh} {h:Heap} {n key mx:Nat} (j:Nat) (I:TInv τ h n) (k16:key≤16) (k1:1≤key) (m1:1≤mx) (m64:mx≤64) :
  CallK CC 102 [.s (.int .i64 (key:Nat)),.s (.int .i64 (mx:Nat))] h n fun v h' n'=>Goes noFp τ n h h' n' fun τ'=>∃ b,v=.ptr b 0∧n≤b∧τ' b=some (.lru j key mx []):=by
 refine F102_call fun hlt=>?_
 rw [F102_eq]
 have e1:minW (key:Int) 16=key:=by unfold minW; split <;> omega
 simp [e1,max1 k1,min64 m64,max1 m1]
 have hs:Same n [] h (h.set n (.cells (.lst [.s (.int .i64 (key:Nat)),.s (.int .i64 (mx:Nat)),.s (.slice none 0 0)]) 3)):=Same.new _ _ _ _
 have t1:∀ x,x<n→upT τ n (.lru j key mx []) x=τ x:=fun x hx=>upT_other (by omega)
 refine ⟨upT τ n (.lru j key mx []),I.news (by omega) t1 hs fun x k e hx=>?_,Keep.news t1 hs,upT_same _ _ _⟩
 by_cases hxn:x=n
 ·subst hxn; rw [upT_same] at e; cases e
  exact ⟨by omega,_,by rw [Tree.get_set,if_pos rfl],.inl ⟨rfl,rfl⟩,k16,by simp,m1,m64,by simp⟩
 ·rw [upT_other hxn,I.none hx] at e; cases e
theorem at1_ok {b kb:Nat} {sl:V} {k:List Int} (r:List Int×Int) (hr:Byt r.1) (hk:Byt k) {h:Heap} {n:Nat} (hkb:h.get kb=some (.cells (.lst [sl]) 1)) (hkn:kb<n) (hbn:b<n) (hs:BytesAt h b sl k) :
  CallK CC 197 [.agg (.lst (rowV r)),.ptr kb 0] h n fun v h' n'=>v=.s (.bool (decide (r.1=k)))∧Same n [] h h':=by
 refine F197_call fun hlt=>?_
 rw [F197_eq]
 have esl:normV sl=sl:=by rcases hs with ⟨rfl,_⟩ | ⟨_,_,_,_,_,rfl,_⟩ <;> rfl
 have hsm:Same n [] h (h.set n (.cells (.lst (rowV r)) 2)):=Same.new _ _ _ _
 have e2:=conv_ok (hs.of (hsm b hbn (by simp)))
 have e3:=str_eq 9 false (ofI r.1) (ofI k)
 rw [str_dec hr hk] at e3
 simp [rowV] at e2 ⊢
 simp [cellsAt,Tree.get_set,show ¬ kb=n by omega,hkb,esl,e2,e3]
 exact hsm
def idxL:List (List Int×Int)→List Int→Option Nat
 | [],_=>none
 | r::l,k=>if r.1=k then some 0 else (idxL l k).map (· + 1)
theorem idxL_lt:∀ {l:List (List Int×Int)} {k:List Int} {i:Nat},idxL l k=some i→i<l.length
 | [],_,_,e=>by cases e
 | r::l,k,i,e=>by
  unfold idxL at e
  split at e
  ·cases e; simp
  ·cases h:idxL l k with
   | none=>rw [h] at e; cases e
   | some m=>rw [h] at e; cases e; have:=idxL_lt h; simp; omega
def idxI:Option Nat→Int
 | some p=>(p:Nat)
 | none=>-1
theorem indexF_loop {τ:Gh} {kb b lb key most:Nat} {sl v:V} {k:List Int} {rows:List (List Int×Int)} (hk:Byt k) {Q:X→St→Prop} {n0:Nat} {h0:Heap} (I0:TInv τ h0 n0) (hl:lb<n0) (H:LruAt τ h0 lb key most rows v) (hkb:h0.get kb=some (.cells (.lst [sl]) 1)) (hkn:kb<n0) (hbn:b<n0) (hs:BytesAt h0 b sl k)
  (hQ0:∀ h n s t8,F196_L10100 v (.func (.func 197) [] [.ptr kb 0]) (.s (.int .i64 (rows.length:Nat))) t8 h n s→n0≤n→Same n0 [] h0 h→idxL rows k=none→Q (.exit 0) s)
  (hQ1:∀ h n (L:List V) (i:Nat),idxL rows k=some i→n0≤n→Same n0 [] h0 h→L[4]? = some (.s (.int .i64 (i:Nat)))→Q .ret ⟨mkTm L,h,n,[]⟩) :
  ∀ m s,(∃ i h n,m=rows.length-i∧i≤rows.length∧idxL rows k=(idxL (rows.drop i) k).map (· + i)∧F196_L10100 v (.func (.func 197) [] [.ptr kb 0]) (.s (.int .i64 (rows.length:Nat))) (.s (.int .i64 (i:Nat))) h n s∧n0≤n∧Same n0 [] h0 h) →
   LoopK CC none (subC [1,0,1,0,0] (bodyOf Tryz.f196)) s Q:=by
 refine loopH CCok _ ?_
 rintro m s ⟨i,h,n,hm,hi,hx,hs',hn,hsame⟩ hlt
 obtain ⟨g,rfl⟩:=hs'
 rw [F196_b10100]
 have:=H.l1
 have:=H.m2
 by_cases hi':i<rows.length
 ·have e3:wrapF .i64 ((i:Int)+1)=((i+1:Nat):Int):=by rw [wrapF_i64 (by omega) (by omega)]; rfl
  obtain ⟨d,o,c,op,A,es,rfl,hd,hgd,hA,h1,h2⟩:∃ d o c op A es,v=.slice d o rows.length c op∧τ d=some (.part lb 0)∧h0.get d=some (.cells (.lst A) es)∧(A.drop o).take (2*rows.length)=rowsV rows∧rows.length≤c∧o+2*rows.length≤A.length:=by
   rcases H.hr with ⟨_,e⟩ | H'
   ·rw [e] at hi'; simp at hi'
   ·exact H'
  have q1:=(hsame d (I0 d _ hd).1 (by simp)).trans hgd
  obtain ⟨q5,q3,q4⟩:=row_at hA h2 hi'
  rw [List.drop_eq_getElem_cons hi',idxL] at hx
  have hby:=(H.by_ _ (List.getElem_mem hi')).1
  generalize rows[i]=r at q5 hby hx
  simp [hi',blt_dec,cellsAt,q1,ble_dec,show o+i*2+2≤A.length by omega,q5,callV]
  refine CallK.monoN ?_ (at1_ok (b:=b) (k:=k) r hby hk (by rw [hsame kb hkn (by simp),hkb]) (show kb<n by omega) (show b<n by omega) (hs.of (hsame b hbn (by simp))))
  rintro _ h1' n1 ⟨rfl,hs1⟩ hn1
  have sm:Same n0 [] h0 h1':=fun b' hb' _=>by rw [hs1 b' (by omega) (by simp),hsame b' hb' (by simp)]
  by_cases ht:r.1=k
  ·rw [if_pos ht] at hx
   simp [ht,roundQ]
   exact hQ1 _ _ _ i (by simpa using hx) (by omega) sm rfl
  ·rw [if_neg ht,Option.map_map] at hx
   simp [ht,roundQ]
   exact ⟨rows.length-(i+1),by omega,h1',fun hok b o hb=>⟨o,hb,hok b o hb⟩,i+1,rfl,by omega,by rw [hx]; congr 1; funext y; show y+1+i=y+(i+1); omega,_,_,by rw [e3]; exact F196_L10100_of,by omega,sm⟩
 ·have:i=rows.length:=by omega
  subst this
  rw [List.drop_length] at hx
  simp [roundQ]
  exact hQ0 h n _ _ F196_L10100_of hn hsame hx
theorem rows_len {rows:List (List Int×Int)} {v:V} {τ:Gh} {h':Heap} {lb:Nat} (hr:RowsS τ h' lb v rows) (h:Heap):lenV CC h 248 v=some (.s (.int .i64 (rows.length:Nat))):=by
 rcases hr with ⟨rfl,rfl⟩ | ⟨d,o,c,op,A,es,rfl,_⟩ <;> simp
theorem rows_norm {rows:List (List Int×Int)} {v:V} {τ:Gh} {h:Heap} {lb:Nat} (hr:RowsS τ h lb v rows):normV v=v∧V.cells v=some (.one v):=by
 rcases hr with ⟨rfl,rfl⟩ | ⟨d,o,c,op,A,es,rfl,_⟩ <;> exact ⟨rfl,rfl⟩
theorem lruAt_ok {τ:Gh} {h:Heap} {n lb b j key most:Nat} {rows:List (List Int×Int)} {v sl:V} {k:List Int} (I:TInv τ h n) (ht:τ lb=some (.lru j key most rows)) (H:LruAt τ h lb key most rows v) (hbn:b<n) (hs:BytesAt h b sl k) (hk:Byt k) :
  CallK CC 158 [.ptr lb 0,sl] h n fun r h' n'=>r=.s (.int .i64 (idxI (idxL rows k)))∧Same n [] h h':=by
 refine F158_call fun hlt=>?_
 rw [F158_eq]
 have hl:=(I lb _ ht).1
 have esl:V.cells sl=some (.one sl):=by rcases hs with ⟨rfl,_⟩ | ⟨_,_,_,_,_,rfl,_⟩ <;> rfl
 have hg:=H.hg
 simp [esl,cellsAt,Tree.get_set,show ¬ lb=n by omega,hg,(rows_norm H.hr).1]
 have hsm:Same n [] h (h.set n (.cells (.lst [sl]) 1)):=Same.new _ _ _ _
 refine F196_call fun hlt2=>?_
 rw [F196_eq]
 simp [rows_len H.hr]
 refine indexF_loop (τ:=τ) (b:=b) (k:=k) (rows:=rows) hk (n0:=n+1) (h0:=h.set n (.cells (.lst [sl]) 1)) (I.same hsm (by omega)) (show lb<n+1 by omega) (H.of I hl fun x hx=>hsm x hx (by simp)) (by rw [Tree.get_set,if_pos rfl]) (by omega) (by omega) (hs.of (hsm b hbn (by simp))) ?_ ?_ _ _ ⟨0,_,_,rfl,by omega,by simp,F196_L10100_of,Nat.le_refl _,Same.refl _ _ _⟩
 ·intro h' n' s t8 hs' hn' hsm' hx
  obtain ⟨g,rfl⟩:=hs'
  rw [F196_r10100_0]
  exact ⟨by rw [hx]; rfl,fun x hx _=>by rw [hsm' x (by omega) (by simp),hsm x hx (by simp)]⟩
 ·intro h' n' L i hi hn' hsm' hL
  simp [resume,retW,dropDefs,hL]
  exact ⟨by rw [hi]; rfl,fun x hx _=>by rw [hsm' x (by omega) (by simp),hsm x hx (by simp)]⟩
theorem lruPeek_ok {τ:Gh} {h:Heap} {n lb b j key most:Nat} {rows:List (List Int×Int)} {sl:V} {k:List Int} (I:TInv τ h n) (ht:τ lb=some (.lru j key most rows)) (hbn:b<n) (hs:BytesAt h b sl k) (hk:Byt k) :
  CallK CC 108 [.ptr lb 0,sl] h n fun v h' n'=>v=pairV ((idxL rows k).map fun i=>(rows.getD i ([],0)).2)∧Same n [] h h':=by
 refine F108_call fun hlt=>?_
 rw [F108_eq]
 obtain ⟨v,H⟩:=LruAt.of_inv I ht
 have hl:lb<n:=(I lb _ ht).1
 refine CallK.monoN ?_ (lruAt_ok I ht H hbn hs hk)
 rintro _ h1 n1 ⟨rfl,hs1⟩ hn1
 cases hx:idxL rows k with
 | none=>simp [idxI,pairV]; exact hs1
 | some i=>
  have hi:=idxL_lt hx
  rcases H.hr with ⟨_,e⟩ | ⟨d,o,c,op,A,es,rfl,hd,hgd,hA,h1',h2⟩
  ·rw [e] at hi; simp at hi
  obtain ⟨q5,q3,q4⟩:=row_at hA h2 hi
  have hg:=(hs1 lb hl (by simp)).trans H.hg
  have hg2:=(hs1 d (I d _ hd).1 (by simp)).trans hgd
  simp [idxI,pairV,cellsAt,hg,blt_dec,hi,hg2,q4]
  exact hs1
theorem mkConv_s (s:ByteArray):mkConv CC 9 30 (.s (.string s))=some (.cells (.ofList (bytesV s.data.toList)) 1,.slice s.size s.size true):=by kernel_rfl
theorem bytesV_eq (l:List UInt8):bytesV l=bytesV' (l.map fun x=>(x.toNat:Int)):=by
 simp [bytesV,bytesV']
theorem append_cut {sz bytes b o i n m es:Nat} {h:Heap} {A old cs:List V} {x:V} (hz:sz≠0) (hs:h.get b=some (.cells (.lst A) es)) (ho:(A.drop o).take (i*sz)=old) (hol:old.length=i*sz) (hx:Row h sz m cs x) (hb:(2*(i+m)+192)*bytes≤281474976710656) {K:V→Heap→Nat→Prop}
  (hK:∀ v h' n',(m=0∧v=.slice b o i i false∧n'=n∧∀ x,h'.get x=h.get x)∨(v=.slice n 0 (i+m) (i+m) true∧n'=n+1∧h'.get n=some (.cells (.lst (old++cs)) sz)∧∀ x,x≠n→h'.get x=h.get x)→K v h' n'):appendWK sz bytes h n (.slice b o i i false) x K:=by
 by_cases hm:m=0
 ·subst hm
  exact append_none hx hs (Nat.le_refl _) fun h' he=>hK _ _ _ (.inl ⟨rfl,rfl,rfl,he⟩)
 ·exact append_new hz hx (.row (es:=es) (by simp only [cellsAt,hs]) ho hol) (by omega) hb fun h' h1 h2=>hK _ _ _ (.inr ⟨rfl,rfl,h1,h2⟩)
end Go.Ev
end
section
namespace Go.Ev
open Proofs
set_option maxRecDepth 20000
theorem lru_put {τ:Gh} {h h':Heap} {n n' lb j key most:Nat} {rows rows':List (List Int×Int)} {v2:V} (I:TInv τ h n) (hn:n≤n') (ht:τ lb=some (.lru j key most rows)) (k16:key≤16) (m1:1≤most) (m2:most≤64) (l1:rows'.length≤most) (by_:∀ r∈rows',Byt r.1∧r.1.length≤16)
  (gl:h'.get lb=some (.cells (.lst [.s (.int .i64 (key:Nat)),.s (.int .i64 (most:Nat)),v2]) 3)) (s:∀ x,x<n→x≠lb→h'.get x=h.get x)
  (R:RowsS τ h lb v2 rows'∨∃ nb o c op A es,n≤nb∧nb<n'∧v2=.slice nb o rows'.length c op∧h'.get nb=some (.cells (.lst A) es)∧(A.drop o).take (2*rows'.length)=rowsV rows'∧rows'.length≤c∧o+2*rows'.length≤A.length) :
  Goes (onlyFp lb) τ n h h' n' fun τ'=>τ' lb=some (.lru j key most rows')∧∀ x,τ' x≠none→τ x≠none∨∃ d o l c op,x=d∧n≤d∧v2=.slice d o l c op:=by
 have hl:=(I lb _ ht).1
 rcases R with R | ⟨nb,o,c,op,A,es,b1,b2,e,hgn,hA,q1,q2⟩
 ·have up:∀ x i,τ x=some (.part lb i)→upT τ lb (.lru j key most rows') x=some (.part lb i):=fun x i hx=>by rw [upT_other (by rintro rfl; rw [ht] at hx; cases hx)]; exact hx
  have key2:∀ x,x<n→x≠lb→(∀ i,τ x≠some (.part lb i))→h'.get x=h.get x:=fun x hx hxl _=>s x hx hxl
  refine ⟨_,I.put (k':=.lru j key most rows') hn ht (noPart (by simp)) (noPart (by simp)) key2 ⟨v2,gl,R.of fun x hx=>⟨s x (I x _ hx).1 (by rintro rfl; rw [ht] at hx; cases hx),up x 0 hx⟩,k16,l1,m1,m2,by_⟩,Keep.put I ht (noPart (by simp)) key2 rfl,upT_same _ _ _,fun x hx=>?_⟩
  by_cases hxl:x=lb
  ·subst hxl; exact .inl (by rw [ht]; simp)
  ·rw [upT_other hxl] at hx; exact .inl hx
 ·have tn:τ nb=none:=I.none b1
  have hnl:nb≠lb:=by omega
  refine ⟨upT (upT τ nb (.part lb 0)) lb (.lru j key most rows'),?_,?_,upT_same _ _ _,fun x hx=>?_⟩
  ·refine I.go lb hn (fun x i e=>by rw [ht] at e; cases e) (fun x hx hxl=>by rw [upT_other hxl,upT_other (by omega)]) (fun x hx hxl _=>s x hx hxl) fun x k e' hx=>?_
   by_cases hxl:x=lb
   ·subst hxl; rw [upT_same] at e'; cases e'
    exact ⟨by omega,v2,gl,.inr ⟨nb,o,c,op,A,es,e,by rw [upT_other hnl,upT_same],hgn,hA,q1,q2⟩,k16,l1,m1,m2,by_⟩
   ·rw [upT_other hxl] at e'
    by_cases hxn:x=nb
    ·subst hxn; rw [upT_same] at e'; cases e'; exact ⟨b2,trivial⟩
    ·rw [upT_other hxn,I.none (by omega)] at e'; cases e'
  ·refine ⟨fun x k hx e' hf=>?_,fun x hx e'=>?_,fun y k x hy hx e' hk hf hp=>?_⟩
   ·by_cases hxl:x=lb
    ·subst hxl; rw [ht] at e'; cases e'
     rcases hf with hf | ⟨_,_,hf⟩
     ·exact absurd rfl hf
     ·cases hf
    ·rw [upT_other hxl,upT_other (by omega)]; exact e'
   ·have hxl:x≠lb:=by rintro rfl; rw [ht] at e'; cases e'
    exact ⟨by rw [upT_other hxl,upT_other (by omega)]; exact e',s x hx hxl⟩
   ·refine s x hx ?_
    rcases hp with rfl | ⟨i,hp⟩
    ·exact hf
    ·rintro rfl; rw [ht] at hp; cases hp
  ·by_cases hxl:x=lb
   ·subst hxl; exact .inl (by rw [ht]; simp)
   ·rw [upT_other hxl] at hx
    by_cases hxn:x=nb
    ·exact .inr ⟨nb,_,_,_,_,hxn,b1,e⟩
    ·rw [upT_other hxn] at hx; exact .inl hx
def outL (rows:List (List Int×Int)) (i:Nat):List (List Int×Int):=rows.take i++rows.drop (i+1)
theorem outL_len {rows:List (List Int×Int)} {i:Nat} (h:i<rows.length):(outL rows i).length=rows.length-1:=by simp [outL]; omega
theorem outL_mem {rows:List (List Int×Int)} {i:Nat} {r:List Int×Int} (h:r∈outL rows i):r∈rows:=by
 rcases List.mem_append.1 h with h | h
 ·exact List.mem_of_mem_take h
 ·exact List.mem_of_mem_drop h
theorem out_ok {τ:Gh} {h:Heap} {n lb i j key most:Nat} {rows:List (List Int×Int)} (I:TInv τ h n) (ht:τ lb=some (.lru j key most rows)) (hi:i<rows.length) :
  CallK CC 194 [.ptr lb 0,.s (.int .i64 (i:Nat))] h n fun v h' n'=>v=.agg (.lst (rowV (rows.getD i ([],0))))∧Goes (onlyFp lb) τ n h h' n' fun τ'=>τ' lb=some (.lru j key most (outL rows i)):=by
 refine F194_call fun hlt=>?_
 rw [F194_eq]
 obtain ⟨v,H⟩:=LruAt.of_inv I ht
 have hl:lb<n:=(I lb _ ht).1
 have hg:=H.hg
 have l1:=H.l1
 have l2:=H.m2
 rcases H.hr with ⟨_,h0⟩ | ⟨d,o,c,op,A,es,rfl,hd,hgd,hA,h1,h2⟩
 ·rw [h0] at hi; simp at hi
 have hdn:d<n:=(I d _ hd).1
 obtain ⟨q5,q3,q4⟩:=row_at hA h2 hi
 have eD:rows.getD i ([],0)=rows[i]:=by simp [List.getD_eq_getElem?_getD,hi]
 obtain ⟨w,hw⟩:∃ w,w=i+1:=⟨_,rfl⟩
 have e3:wrapF .i64 ((i:Int)+1)=(w:Int):=by rw [wrapF_i64 (by omega) (by omega)]; omega
 rw [eD]
 have hrow:∀ r:List Int×Int,rows[i]=r→(A.drop (o+i*2)).take 2=[.s (.string (ofI r.1)),.s (.int .i64 r.2)]:=fun r e=>by rw [q5,e]; rfl
 obtain ⟨r,hr⟩:∃ r,rows[i]=r:=⟨_,rfl⟩
 have q6:=hrow r hr
 rw [hr]
 simp [cellsAt,Tree.get_set,show ¬ lb=n by omega,show ¬ lb=n+1 by omega,show ¬ d=n by omega,hg,blt_dec,hi,hgd,ble_dec,show o+i*2+2≤A.length by omega,q6,storeCells,cellsOwn,Rope.put,rowV,e3,bounds,bound,show i≤c by omega,show w≤rows.length by omega]
 generalize hh:Tree.set (Tree.set (Tree.set h n _) (n+1) _) (n+1) _=h1
 have g0:h1.get n=some (.cells (.lst [.s (.string ⟨#[]⟩),.s (.int .i64 0)]) 2):=by rw [← hh,Tree.get_set,if_neg (by omega),Tree.get_set,if_neg (by omega),Tree.get_set,if_pos rfl]
 have g1:h1.get (n+1)=some (.cells (.lst [.s (.string (ofI r.1)),.s (.int .i64 r.2)]) 2):=by rw [← hh,Tree.get_set,if_pos rfl]
 have hs1:Same n [] h h1:=fun x hx _=>by rw [← hh,Tree.get_set,if_neg (by omega),Tree.get_set,if_neg (by omega),Tree.get_set,if_neg (by omega)]
 have qd:h1.get d=some (.cells (.lst A) es):=(hs1 d hdn (by simp)).trans hgd
 have w1:(A.drop o).take (i*2)=rowsV (rows.take i):=by
  rw [← rowsV_take,← hA,List.take_take]; congr 1; omega
 have w2:(A.drop (o+w*2)).take ((rows.length-w)*2)=rowsV (rows.drop w):=by
  rw [← rowsV_drop,← hA,List.drop_take,List.drop_drop]
  rw [show o+2*w=o+w*2 by omega,show 2*rows.length-2*w=(rows.length-w)*2 by omega]
 refine append_cut (by omega) qd w1 (by rw [rowsV_length]; simp; omega) (.row (A:=A) (es:=es) (by simp only [cellsAt,qd]) w2 (by rw [rowsV_length]; simp; omega)) (by omega) ?_
 intro v2 h2' n2 hc
 have rl:=outL_len hi
 have hc2:(RowsS τ h lb v2 (outL rows i)∨∃ nb o c op A es,n+1+1+19≤nb∧nb<n2∧v2=.slice nb o (outL rows i).length c op∧h2'.get nb=some (.cells (.lst A) es)∧(A.drop o).take (2*(outL rows i).length)=rowsV (outL rows i)∧(outL rows i).length≤c∧o+2*(outL rows i).length≤A.length)∧n+1+1+19≤n2∧(∀ x,x<n+2→h2'.get x=h1.get x)∧normV v2=v2∧V.cells v2=some (.one v2):=by
  rcases hc with ⟨hm,rfl,rfl,he⟩ | ⟨rfl,rfl,hgn,he⟩
  ·have e0:outL rows i=rows.take i:=by unfold outL; rw [List.drop_eq_nil_of_le (by omega),List.append_nil]
   refine ⟨.inl (.inr ⟨d,o,i,false,A,es,by rw [rl,show rows.length-1=i by omega],hd,hgd,?_,by rw [rl]; omega,by rw [rl]; omega⟩),by omega,fun x _=>he x,rfl,rfl⟩
   rw [rl,show 2*(rows.length-1)=i*2 by omega,w1,e0]
  ·refine ⟨.inr ⟨n+1+1+19,0,i+(rows.length-w),true,_,2,by omega,by omega,by rw [rl,show rows.length-1=i+(rows.length-w) by omega],hgn,?_,by rw [rl]; omega,?_⟩,by omega,fun x hx=>he x (by omega),rfl,rfl⟩
   ·rw [← rowsV_append,hw]
    show (rowsV (outL rows i)).take _=_
    exact List.take_of_length_le (by rw [rowsV_length]; exact Nat.le_refl _)
   ·rw [← rowsV_append,hw]
    show 0+2*_≤(rowsV (outL rows i)).length
    rw [rowsV_length]; omega
 obtain ⟨R,hn2,he,rn1,rn2⟩:=hc2
 have gl:h2'.get lb=some (.cells (.lst [.s (.int .i64 key),.s (.int .i64 (most:Nat)),.slice d o rows.length c op]) 3):=by rw [he lb (by omega),hs1 lb hl (by simp),hg]
 have gn:h2'.get n=some (.cells (.lst [.s (.string ⟨#[]⟩),.s (.int .i64 0)]) 2):=by rw [he n (by omega),g0]
 have gn1:h2'.get (n+1)=some (.cells (.lst [.s (.string (ofI r.1)),.s (.int .i64 r.2)]) 2):=by rw [he (n+1) (by omega),g1]
 simp [rn2,gl,gn1,gn,Tree.get_set,show ¬ n=lb by omega,show ¬ n+1=lb by omega,Rope.put]
 generalize hh3:Tree.set (Tree.set h2' lb _) n _=h3
 have gl3:h3.get lb=some (.cells (.lst [.s (.int .i64 key),.s (.int .i64 (most:Nat)),v2]) 3):=by rw [← hh3,Tree.get_set,if_neg (by omega),Tree.get_set,if_pos rfl]
 have e3':∀ x,x≠lb→x≠n→h3.get x=h2'.get x:=fun x h1 h2=>by rw [← hh3,Tree.get_set,if_neg h2,Tree.get_set,if_neg h1]
 refine (lru_put (rows':=outL rows i) I (by omega) ht H.k16 H.m1 H.m2 (by rw [rl]; omega) (fun r hr=>H.by_ r (outL_mem hr)) gl3 (fun x hx hxl=>by rw [e3' x hxl (by omega),he x (by omega),hs1 x hx (by simp)]) ?_).imp (fun _ _ _ h=>h) fun t ht=>ht.1
 rcases R with R | ⟨nb,o',c',op',A',es',r1,r2,r3,r4,r5⟩
 ·exact .inl R
 ·exact .inr ⟨nb,o',c',op',A',es',by omega,r2,r3,by rw [e3' nb (by omega) (by omega)]; exact r4,r5⟩
theorem fill_row (r:List Int×Int):fillA 2 ((zr CC 255).rep 1) [(0,.agg (.lst (rowV r)))]=some (.lst (rowV r)):=by kernel_rfl
theorem first_ok {τ:Gh} {h:Heap} {n lb j key most:Nat} {rows:List (List Int×Int)} (r:List Int×Int) (hrB:Byt r.1) (r16:r.1.length≤16) (I:TInv τ h n) (ht:τ lb=some (.lru j key most rows)) (hlen:rows.length+1≤most) :
  CallK CC 195 [.ptr lb 0,.agg (.lst (rowV r))] h n fun v h' n'=>Goes (onlyFp lb) τ n h h' n' fun τ'=>τ' lb=some (.lru j key most (r::rows)):=by
 refine F195_call fun hlt=>?_
 rw [F195_eq]
 obtain ⟨v,H⟩:=LruAt.of_inv I ht
 have hl:lb<n:=(I lb _ ht).1
 have hg:=H.hg
 have l2:=H.m2
 have fr:=fill_row r
 simp [cellsAt,Tree.get_set,show ¬ lb=n by omega,hg,ble_dec,rowV,(rows_norm H.hr).1] at fr ⊢
 simp [fr]
 generalize hh:Tree.set (Tree.set h n _) (n+1+2) _=h1
 have g1:h1.get (n+1+2)=some (.cells (.lst (rowV r)) 2):=by rw [← hh,Tree.get_set,if_pos rfl]; rfl
 have hs1:Same n [] h h1:=fun x hx _=>by rw [← hh,Tree.get_set,if_neg (by omega),Tree.get_set,if_neg (by omega)]
 have hr:Row h1 2 rows.length (rowsV rows) v:=by
  rcases H.hr with ⟨rfl,rfl⟩ | ⟨d,o,c,op,A,es,rfl,hd,hgd,hA,q1,q2⟩
  ·exact .nil rfl rfl
  ·refine .row (A:=A) (es:=es) (by simp only [cellsAt,(hs1 d (I d _ hd).1 (by simp)).trans hgd]) (by rw [Nat.mul_comm]; exact hA) (by rw [rowsV_length]; omega)
 refine append_cut (i:=1) (old:=rowV r) (by omega) g1 rfl rfl hr (by omega) ?_
 intro v2 h2' n2 hc
 have hc2:(∃ nb o c op A es,n≤nb∧nb<n2∧v2=.slice nb o (r::rows).length c op∧h2'.get nb=some (.cells (.lst A) es)∧(A.drop o).take (2*(r::rows).length)=rowsV (r::rows)∧(r::rows).length≤c∧o+2*(r::rows).length≤A.length)∧n+1+11≤n2∧(∀ x,x<n→h2'.get x=h1.get x)∧normV v2=v2∧V.cells v2=some (.one v2):=by
  rcases hc with ⟨hm,rfl,rfl,he⟩ | ⟨rfl,rfl,hgn,he⟩
  ·have e0:rows=[]:=List.length_eq_zero_iff.1 hm
   subst e0
   exact ⟨⟨n+1+2,0,1,false,_,2,by omega,by omega,rfl,by rw [he,g1],rfl,Nat.le_refl _,Nat.le_refl _⟩,by omega,fun x _=>he x,rfl,rfl⟩
  ·refine ⟨⟨n+1+11,0,1+rows.length,true,_,2,by omega,by omega,by rw [show 1+rows.length=(r::rows).length by simp; omega],hgn,?_,by simp; omega,by simp [rowV,rowsV_length]; omega⟩,by omega,fun x hx=>he x (by omega),rfl,rfl⟩
   show (rowsV (r::rows)).take _=_
   exact List.take_of_length_le (by rw [rowsV_length]; exact Nat.le_refl _)
 obtain ⟨⟨nb,o',c',op',A',es',r1,r2,r3,r4,r5⟩,hn2,he,rn1,rn2⟩:=hc2
 have gl:h2'.get lb=some (.cells (.lst [.s (.int .i64 key),.s (.int .i64 (most:Nat)),v]) 3):=by rw [he lb (by omega),hs1 lb hl (by simp),hg]
 simp [rn2,gl,storeCells,cellsOwn,Rope.put,ble_dec]
 generalize hh3:Tree.set h2' lb _=h3
 have gl3:h3.get lb=some (.cells (.lst [.s (.int .i64 key),.s (.int .i64 (most:Nat)),v2]) 3):=by rw [← hh3,Tree.get_set,if_pos rfl]
 have e3':∀ x,x≠lb→h3.get x=h2'.get x:=fun x h1=>by rw [← hh3,Tree.get_set,if_neg h1]
 refine (lru_put (rows':=r::rows) I (by omega) ht H.k16 H.m1 H.m2 hlen (fun x hx=>?_) gl3 (fun x hx hxl=>by rw [e3' x hxl,he x hx,hs1 x hx (by simp)]) (.inr ⟨nb,o',c',op',A',es',r1,r2,r3,by rw [e3' nb (by omega)]; exact r4,r5⟩)).imp (fun _ _ _ h=>h) fun t ht=>ht.1
 rcases List.mem_cons.1 hx with rfl | hx
 ·exact ⟨hrB,r16⟩
 ·exact H.by_ x hx
def findL (rows:List (List Int×Int)) (k:List Int):List (List Int×Int):=match idxL rows k with
 | some i=>rows.getD i ([],0)::outL rows i
 | none=>rows
def delL (rows:List (List Int×Int)) (k:List Int):List (List Int×Int):=match idxL rows k with
 | some i=>outL rows i
 | none=>rows
theorem lruFind_ok {τ:Gh} {h:Heap} {n lb b j key most:Nat} {rows:List (List Int×Int)} {sl:V} {k:List Int} (I:TInv τ h n) (ht:τ lb=some (.lru j key most rows)) (hbn:b<n) (hs:BytesAt h b sl k) (hk:Byt k) :
  CallK CC 248 [.ptr lb 0,sl] h n fun v h' n'=>v=pairV ((idxL rows k).map fun i=>(rows.getD i ([],0)).2)∧Goes (onlyFp lb) τ n h h' n' fun τ'=>τ' lb=some (.lru j key most (findL rows k)):=by
 refine F248_call fun hlt=>?_
 rw [F248_eq]
 obtain ⟨v,H⟩:=LruAt.of_inv I ht
 have hl:lb<n:=(I lb _ ht).1
 refine CallK.monoN ?_ (lruAt_ok I ht H hbn hs hk)
 rintro _ h1 n1 ⟨rfl,hs1⟩ hn1
 have I1:=I.same hs1 hn1
 unfold findL
 cases hx:idxL rows k with
 | none=>simp [idxI,pairV]; exact ⟨τ,I1,Keep.of_same hs1,ht⟩
 | some i=>
  have hi:=idxL_lt hx
  simp [idxI]
  refine CallK.monoN ?_ (out_ok I1 ht hi)
  rintro _ h2 n2 ⟨rfl,τ2,I2,K2,ht2⟩ hn2
  have l1:=H.l1
  have rl:=outL_len hi
  have hm:rows.getD i ([],0)∈rows:=by simp [List.getD_eq_getElem?_getD,hi]
  have hB:=H.by_ _ hm
  simp only [List.getD_eq_getElem?_getD] at hm hB ⊢
  generalize (rows[i]?.getD ([],0))=r at hB ⊢
  refine CallK.monoN ?_ (first_ok r hB.1 hB.2 I2 ht2 (by omega))
  rintro _ h3 n3 ⟨τ3,I3,K3,ht3⟩ hn3
  obtain ⟨v3,H3⟩:=LruAt.of_inv I3 ht3
  have hg:=H3.hg
  rcases H3.hr with ⟨_,e⟩ | ⟨d,o,c,op,A,es,rfl,hd,hgd,hA,h1',h2⟩
  ·cases e
  obtain ⟨q5,q3,q4⟩:=row_at hA h2 (show 0<(r::outL rows i).length by simp)
  simp at q4
  simp [cellsAt,hg,blt_dec,hgd,q4,asNat_int,pairV]
  exact ⟨τ3,I3,(Keep.of_same hs1).trans hn1 (K2.trans hn2 K3),ht3⟩
theorem lruDel_ok {τ:Gh} {h:Heap} {n lb b j key most:Nat} {rows:List (List Int×Int)} {sl:V} {k:List Int} (I:TInv τ h n) (ht:τ lb=some (.lru j key most rows)) (hbn:b<n) (hs:BytesAt h b sl k) (hk:Byt k) :
  CallK CC 247 [.ptr lb 0,sl] h n fun v h' n'=>v=pairV ((idxL rows k).map fun i=>(rows.getD i ([],0)).2)∧Goes (onlyFp lb) τ n h h' n' fun τ'=>τ' lb=some (.lru j key most (delL rows k)):=by
 refine F247_call fun hlt=>?_
 rw [F247_eq]
 obtain ⟨v,H⟩:=LruAt.of_inv I ht
 have hl:lb<n:=(I lb _ ht).1
 refine CallK.monoN ?_ (lruAt_ok I ht H hbn hs hk)
 rintro _ h1 n1 ⟨rfl,hs1⟩ hn1
 have I1:=I.same hs1 hn1
 unfold delL
 cases hx:idxL rows k with
 | none=>simp [idxI,pairV]; exact ⟨τ,I1,Keep.of_same hs1,ht⟩
 | some i=>
  have hi:=idxL_lt hx
  simp [idxI]
  refine CallK.monoN ?_ (out_ok I1 ht hi)
  rintro _ h2 n2 ⟨rfl,τ2,I2,K2,ht2⟩ hn2
  simp [rowV,pairV]
  exact ⟨τ2,I2,(Keep.of_same hs1).trans hn1 K2,ht2⟩
end Go.Ev
end
section
namespace Go.Ev
open Proofs
set_option maxRecDepth 20000
def goneL (most:Nat) (rows:List (List Int×Int)):List Int×Int:=if rows.length=most then rows.getD (most-1) ([],0) else ([],0)
def putL (most:Nat) (rows:List (List Int×Int)) (k:List Int) (cell:Int):List (List Int×Int):=(k,cell)::(if rows.length=most then outL rows (most-1) else rows)
def LPutP (τ':Gh) (n:Nat) (h':Heap) (n' lb j key most:Nat) (rows:List (List Int×Int)) (k:List Int) (cell:Int) (v:V):Prop:=
 (¬ (k.length=key∧idxL rows k=none)∧τ' lb=some (.lru j key most rows)∧∃ (g:V) (e:Int),v=.tup [g,.s (.int .i64 0),.s (.int .i64 e)]) ∨
 ((k.length=key∧idxL rows k=none)∧τ' lb=some (.lru j key most (putL most rows k cell))∧∃ (g:V) (a:Nat),v=.tup [g,.s (.int .i64 (goneL most rows).2),.s (.int .i64 0)]∧n≤a∧a<n'∧τ' a=none∧BytesAt h' a g (goneL most rows).1)
theorem u8I_back {x:Int} (h:0≤x∧x<256):((u8I x).toNat:Int)=x:=by
 unfold u8I
 rw [UInt8.toNat_ofNat']
 omega
theorem ofI_back {l:List Int} (h:Byt l):((ofI l).data.toList.map fun x=>(x.toNat:Int))=l:=by
 show ((l.map u8I).toArray.toList.map _)=l
 rw [List.map_map]
 apply List.ext_getElem?
 intro i
 rw [List.getElem?_map]
 cases e:l[i]? with
 | none=>rfl
 | some x=>
  have:=h x (List.mem_of_getElem? e)
  show some ((u8I x).toNat:Int)=some x
  rw [u8I_back this]
theorem gone_fin {τ':Gh} {n m n':Nat} {h h35:Heap} {τ:Gh} {fp:Fp} {l:List Int} {x e:Int} (hB:Byt l) (I:TInv τ' h35 m) (hm:n≤m) (K:Keep fp τ τ' n h h35) (hn:m+2<n') :
  ∃ b o,(h35.set (m+2) (.cells (.ofList (bytesV (ofI l).data.toList)) 1)).get b=some o∧TInv τ' ((h35.set (m+2) (.cells (.ofList (bytesV (ofI l).data.toList)) 1)).set b (normOb o)) n'∧Keep fp τ τ' n h ((h35.set (m+2) (.cells (.ofList (bytesV (ofI l).data.toList)) 1)).set b (normOb o)) ∧
   τ' (m+2)=none∧BytesAt ((h35.set (m+2) (.cells (.ofList (bytesV (ofI l).data.toList)) 1)).set b (normOb o)) (m+2) (.slice (m+2) 0 (ofI l).size (ofI l).size true) l:=by
 refine ⟨m+2,_,by rw [Tree.get_set,if_pos rfl],I.of (by omega) fun y hy _=>by rw [Tree.get_set,if_neg (by omega),Tree.get_set,if_neg (by omega)],⟨K.ty,fun y hy ht=>⟨(K.non y hy ht).1,?_⟩,fun b k y hb hy e h1 h2 h3=>?_⟩,I.none (by omega),?_⟩
 ·rw [Tree.get_set,if_neg (by omega),Tree.get_set,if_neg (by omega)]; exact (K.non y hy ht).2
 ·rw [Tree.get_set,if_neg (by omega),Tree.get_set,if_neg (by omega)]; exact K.mem b k y hb hy e h1 h2 h3
 ·have hz:=ofI_size l
  refine .inr ⟨0,(ofI l).size,true,bytesV (ofI l).data.toList,1,by rw [hz],?_,?_,by rw [bytesV'_length,Nat.mul_one]⟩
  ·rw [cellsAt,Tree.get_set,if_pos rfl]
   show some (Rope.lst ((Rope.ofListF 16 (bytesV (ofI l).data.toList)).toList),1)=_
   rw [(Rope.ofListF_ok 16 (bytesV (ofI l).data.toList)).2.1]
  ·rw [bytesV_eq,ofI_back hB,Nat.mul_one,List.drop_zero]; exact bytes_take _
theorem lruPut_ok {τ:Gh} {h:Heap} {n lb b j key most:Nat} {rows:List (List Int×Int)} {sl:V} {k:List Int} (cell:Int) (I:TInv τ h n) (ht:τ lb=some (.lru j key most rows)) (hbn:b<n) (hbt:τ b=none) (hs:BytesAt h b sl k) (hk:Byt k) :
  CallK CC 157 [.ptr lb 0,sl,.s (.int .i64 cell)] h n fun v h' n'=>Goes (onlyFp lb) τ n h h' n' fun τ'=>LPutP τ' n h' n' lb j key most rows k cell v:=by
 refine CallK.norm ?_
 refine F157_call fun hlt=>?_
 rw [F157_eq]
 obtain ⟨v,H⟩:=LruAt.of_inv I ht
 have hl:lb<n:=(I lb _ ht).1
 have hg:=H.hg
 have l1:=H.l1
 have l2:=H.m1
 have l3:=H.m2
 simp [cellsAt,hg,hs.len]
 by_cases hkey:k.length=key
 ·simp [hkey]
  refine CallK.monoN ?_ (lruAt_ok I ht H hbn hs hk)
  rintro _ h1 n1 ⟨rfl,hs1⟩ hn1
  have I1:=I.same hs1 hn1
  cases hx:idxL rows k with
  | none=>
   have hg1:=(hs1 lb hl (by simp)).trans hg
   have hsx:Same n1 [] h1 (h1.set n1 (.cells (.lst [.s (.string ⟨#[]⟩),.s (.int .i64 0)]) 2)):=Same.new _ _ _ _
   have gz:(h1.set n1 (.cells (.lst [.s (.string ⟨#[]⟩),.s (.int .i64 0)]) 2)).get n1=some (.cells (.lst [.s (.string ⟨#[]⟩),.s (.int .i64 0)]) 2):=by rw [Tree.get_set,if_pos rfl]
   simp [idxI,Tree.get_set,show ¬ lb=n1 by omega,hg1,(rows_norm H.hr).1,rows_len H.hr]
   generalize (h1.set n1 (.cells (.lst [.s (.string ⟨#[]⟩),.s (.int .i64 0)]) 2))=h12 at hsx gz
   have I12:TInv τ h12 (n1+1+10):=I1.same hsx (by omega)
   have tn1:τ n1=none:=I.none hn1
   have Kh:Keep (onlyFp lb) τ τ n h h12:=(Keep.of_same hs1).trans hn1 (Keep.of_same hsx)
   have hs12:=(hs.of (hs1 b hbn (by simp))).of (hsx b (by omega) (by simp))
   have kl:k.length≤16:=by have:=H.k16; omega
   by_cases hlm:rows.length=most
   ·have e1:wrapF .i64 ((most:Int)-1)=((most-1:Nat):Int):=by rw [wrapF_i64 (by omega) (by omega)]; omega
    have eG:goneL most rows=rows.getD (most-1) ([],0):=if_pos hlm
    have eP:putL most rows k cell=(k,cell)::outL rows (most-1):=by unfold putL; rw [if_pos hlm]
    have hgm:goneL most rows∈rows:=by rw [eG,List.getD_eq_getElem?_getD,List.getElem?_eq_getElem (show most-1<rows.length by omega)]; exact List.getElem_mem _
    have hgB:=H.by_ _ hgm
    simp [hlm,e1]
    refine CallK.monoN ?_ (out_ok I12 ht (show most-1<rows.length by omega))
    rintro _ h28 n29 ⟨rfl,τ2,I2,K2,ht2⟩ hn29
    rw [← eG]
    generalize hr:goneL most rows=r at hgB
    have gn:h28.get n1=some (.cells (.lst [.s (.string ⟨#[]⟩),.s (.int .i64 0)]) 2):=by rw [(K2.non n1 (by omega) tn1).2,gz]
    have t2n:τ2 n1=none:=(K2.non n1 (by omega) tn1).1
    simp [rowV,storeCells,cellsOwn,gn,Rope.put,ble_dec]
    have hsx2:∀ y,y≠n1→(h28.set n1 (.cells (.lst [.s (.string (ofI r.1)),.s (.int .i64 r.2)]) 2)).get y=h28.get y:=fun y hy=>by rw [Tree.get_set,if_neg hy]
    have gn2:(h28.set n1 (.cells (.lst [.s (.string (ofI r.1)),.s (.int .i64 r.2)]) 2)).get n1=some (.cells (.lst [.s (.string (ofI r.1)),.s (.int .i64 r.2)]) 2):=by rw [Tree.get_set,if_pos rfl]
    generalize (h28.set n1 (.cells (.lst [.s (.string (ofI r.1)),.s (.int .i64 r.2)]) 2))=h31 at hsx2 gn2 ⊢
    have I31:TInv τ2 h31 n29:=I2.of (Nat.le_refl _) fun y _ hy=>hsx2 y (by rintro rfl; exact hy t2n)
    have hs31:=(hs12.of ((K2.non b (by omega) hbt).2)).of (hsx2 b (by omega))
    have e2:=conv_ok hs31
    simp [e2]
    have rl:=outL_len (rows:=rows) (i:=most-1) (by omega)
    refine CallK.monoN ?_ (first_ok (k,cell) hk kl I31 ht2 (by omega))
    rintro _ h35 n36 ⟨τ3,I3,K3,ht3⟩ hn36
    have g35:h35.get n1=some (.cells (.lst [.s (.string (ofI r.1)),.s (.int .i64 r.2)]) 2):=by rw [(K3.non n1 (by omega) t2n).2,gn2]
    have K31:Keep (onlyFp lb) τ τ2 n h h31:=by
     have K':=Kh.trans (show n≤n1+1+10 by omega) K2
     refine ⟨K'.ty,fun y hy ht'=>⟨(K'.non y hy ht').1,?_⟩,fun b k y hb hy e q1 q2 q3=>?_⟩
     ·rw [hsx2 y (by omega)]; exact (K'.non y hy ht').2
     ·rw [hsx2 y (by omega)]; exact K'.mem b k y hb hy e q1 q2 q3
    simp [g35,mkConv_s,Mk.val]
    obtain ⟨b',o',f1,f2,f3,f4,f5⟩:=gone_fin (τ:=τ) (h:=h) (n:=n) (n':=n36+8) (l:=r.1) (x:=0) (e:=0) hgB.1 I3 (by omega) (K31.trans (by omega) K3) (by omega)
    have fin:∃ b o,(Tree.set h35 (n36+2) (.cells (.ofList (bytesV (ofI r.1).data.toList)) 1)).get b=some o∧Goes (onlyFp lb) τ n h ((Tree.set h35 (n36+2) (.cells (.ofList (bytesV (ofI r.1).data.toList)) 1)).set b (normOb o)) (n36+8) fun τ'=>LPutP τ' n ((Tree.set h35 (n36+2) (.cells (.ofList (bytesV (ofI r.1).data.toList)) 1)).set b (normOb o)) (n36+8) lb j key most rows k cell (.tup [.slice (n36+2) 0 (ofI r.1).size (ofI r.1).size true,.s (.int .i64 r.2),.s (.int .i64 0)]):=
     ⟨b',o',f1,τ3,f2,f3,.inr ⟨⟨hkey,hx⟩,by rw [eP]; exact ht3,_,n36+2,by rw [hr],by omega,by omega,f4,by rw [hr]; exact f5⟩⟩
    first
     | exact .inr fin
     | (simp only [Tree.get_set] at fin; exact .inr fin)
   ·have hlm':¬ (rows.length:Int)=(most:Int):=by omega
    have eG:goneL most rows=([],0):=if_neg hlm
    have eP:putL most rows k cell=(k,cell)::rows:=by unfold putL; rw [if_neg hlm]
    have e2:=conv_ok hs12
    simp [hlm',e2]
    refine CallK.monoN ?_ (first_ok (k,cell) hk kl I12 ht (by omega))
    rintro _ h35 n36 ⟨τ3,I3,K3,ht3⟩ hn36
    have g35:h35.get n1=some (.cells (.lst [.s (.string ⟨#[]⟩),.s (.int .i64 0)]) 2):=by rw [(K3.non n1 (by omega) tn1).2,gz]
    simp [g35,mkConv_s,Mk.val]
    obtain ⟨b',o',f1,f2,f3,f4,f5⟩:=gone_fin (τ:=τ) (h:=h) (n:=n) (n':=n36+8) (l:=[]) (x:=0) (e:=0) (fun x hx=>by cases hx) I3 (by omega) (Kh.trans (by omega) K3) (by omega)
    have fin:∃ b o,(Tree.set h35 (n36+2) (.cells (.ofList (bytesV (ofI []).data.toList)) 1)).get b=some o∧Goes (onlyFp lb) τ n h ((Tree.set h35 (n36+2) (.cells (.ofList (bytesV (ofI []).data.toList)) 1)).set b (normOb o)) (n36+8) fun τ'=>LPutP τ' n ((Tree.set h35 (n36+2) (.cells (.ofList (bytesV (ofI []).data.toList)) 1)).set b (normOb o)) (n36+8) lb j key most rows k cell (.tup [.slice (n36+2) 0 (ofI []).size (ofI []).size true,.s (.int .i64 0),.s (.int .i64 0)]):=
     ⟨b',o',f1,τ3,f2,f3,.inr ⟨⟨hkey,hx⟩,by rw [eP]; exact ht3,_,n36+2,by rw [eG],by omega,by omega,f4,by rw [eG]; exact f5⟩⟩
    first
     | exact .inr fin
     | (simp only [Tree.get_set] at fin; exact .inr fin)
  | some i=>
   simp [idxI]
   exact .inl ⟨τ,I1,Keep.of_same hs1,.inl ⟨fun h=>(by rw [hx] at h; cases h.2),ht,_,_,rfl⟩⟩
 ·have hkey':¬ (k.length:Int)=(key:Int):=by omega
  simp [hkey']
  exact .inl ⟨τ,I.same (Same.refl _ _ _) (Nat.le_refl _),Keep.refl _ _ _ _,.inl ⟨fun h=>hkey h.1,ht,_,_,rfl⟩⟩
end Go.Ev
end
section
namespace Go.Ev
open Proofs
set_option maxRecDepth 20000
theorem norm_bytes {l:List Int} (hB:Byt l):normOb (.cells (.ofList (bytesV (ofI l).data.toList)) 1)=.cells (.lst (bytesV' l)) 1:=by
 show O.cells (.lst ((Rope.ofListF 16 (bytesV (ofI l).data.toList)).toList)) 1=_
 rw [(Rope.ofListF_ok 16 (bytesV (ofI l).data.toList)).2.1,bytesV_eq,ofI_back hB]
theorem keys_snoc {n0 n b m:Nat} {h h4:Heap} {v:V} {ks:List (List Int)} {k:List Int} (hK:KeysAt n0 n h v ks) (hlt:∀ b o,h.get b=some o→b<n) (hn0:n0≤n) (hn:n≤m) (hl:ks.length≤100000)
  (hs:∀ x,x<n→h4.get x=h.get x) (hb:n≤b) (hbm:b<m) (hgb:h4.get b=some (.cells (.lst (bytesV' k)) 1)) {K:V→Heap→Nat→Prop}
  (H:∀ v' h6 n6,m+1≤n6→KeysAt n0 n6 h6 v' (ks++[k])→(∀ x,x<n0→h6.get x=h.get x)→K v' h6 n6) :
  appendWK 1 24 (h4.set m (.cells (.lst [.slice b 0 k.length k.length true]) 1)) (m+1) v (.slice m 0 1 1 false) K:=by
 obtain ⟨a,vs,hG,h00,hK,ha,hor⟩:=hK
 obtain ⟨w,hw⟩:∃ w,w=V.slice b 0 k.length k.length true:=⟨_,rfl⟩
 rw [← hw]
 have gk:∀ x,x<n→(h4.set m (.cells (.lst [w]) 1)).get x=h.get x:=fun x hx=>by rw [Tree.get_set,if_neg (by omega),hs x hx]
 have hrow:Row (h4.set m (.cells (.lst [w]) 1)) 1 1 [w] (.slice m 0 1 1 false):=.row (A:=[w]) (es:=1) (by simp [cellsAt,Tree.get_set]) rfl rfl
 have hsz:(2*(ks.length+1)+192)*24≤281474976710656:=by omega
 obtain ⟨a2,c1,c2,hG',hK',ha2⟩:∃ a2,n0≤a2∧a2<m+1∧GrowAt (h4.set m (.cells (.lst [w]) 1)) a2 v 1 ks.length vs∧KeysIn n0 n a2 (h4.set m (.cells (.lst [w]) 1)) vs ks∧(a2=m∨a2<n):=by
  rcases hG with ⟨q1,q2,q3⟩ | ⟨o,k,op,A,q1,q2,q3,q4⟩
  ·have:ks=[]:=List.length_eq_zero_iff.1 q2
   subst q3; subst this
   exact ⟨m,by omega,by omega,.inl ⟨q1,rfl,rfl⟩,KeysIn.nil _ _ _ _,.inl rfl⟩
  ·have:=hlt _ _ q3
   exact ⟨a,ha,by omega,.inr ⟨o,k,op,A,q1,q2,by rw [gk a this]; exact q3,q4⟩,⟨hK.1,fun i k e=>by obtain ⟨b,r1,r2,r3,r4,r5⟩:=hK.2 i k e; exact ⟨b,r1,r2,r3,r4,by rw [gk b r3]; exact r5⟩⟩,.inr this⟩
 refine grow0_ok (m:=1) (new:=[w]) (by decide) hG' hrow c2 hsz ?_
 intro v' a' h6 n6 ha' han' hn6 hG6 hs6 h06
 have hK6:KeysIn n0 n6 a' h6 (vs++[w]) (ks++[k]):=by
  rw [hw]
  refine hK'.snoc (by omega) (by omega) (fun x hx hxa=>hs6 x hxa (by omega)) (by omega) (by omega) (by omega) ?_
  rw [hs6 b (by omega) (by omega),Tree.get_set,if_neg (by omega),hgb]
 exact H v' h6 n6 hn6 ⟨a',vs++[w],by simpa using hG6,h06 h00,hK6,by omega,.inl han'⟩ fun x hx=>by rw [hs6 x (by omega) (by omega),gk x (by omega)]
def keysL (rows:List (List Int×Int)):List (List Int):=rows.map (·.1)
theorem lkeys_loop {τ:Gh} {lb n0 key most:Nat} {h0:Heap} {rows:List (List Int×Int)} {v:V} (I0:TInv τ h0 n0) (hl:lb<n0) (H:LruAt τ h0 lb key most rows v) {Q:X→St→Prop}
  (hQ:∀ t3 t11 h n s,F249_L110100 t3 v (.s (.int .i64 rows.length)) t11 h n s→n0≤n→KeysAt n0 n h t3 (keysL rows)→Same n0 [] h0 h→Q (.exit 0) s) :
  ∀ m s,(∃ (i:Nat) (t3:V) (h:Heap) (n:Nat),m=rows.length-i∧i≤rows.length∧F249_L110100 t3 v (.s (.int .i64 rows.length)) (.s (.int .i64 i)) h n s∧n0≤n∧KeysAt n0 n h t3 (keysL (rows.take i))∧Same n0 [] h0 h) →
   LoopK CC none (subC [1,1,0,1,0,0] (bodyOf Tryz.f249)) s Q:=by
 refine loopH CCok _ ?_
 rintro m s ⟨i,t3,h,n,hm,hi,hs,hn,hK,hsame⟩ hlt
 obtain ⟨g',rfl⟩:=hs
 rw [F249_b110100]
 replace hlt:∀ b o,h.get b=some o→b<n:=hlt
 have:=H.l1
 have:=H.m2
 by_cases hi':i<rows.length
 ·have e3:wrapF .i64 ((i:Int)+1)=((i+1:Nat):Int):=by rw [wrapF_i64 (by omega) (by omega)]; rfl
  obtain ⟨d,o,c,op,A,es,rfl,hd,hgd,hA,h1,h2⟩:∃ d o c op A es,v=.slice d o rows.length c op∧τ d=some (.part lb 0)∧h0.get d=some (.cells (.lst A) es)∧(A.drop o).take (2*rows.length)=rowsV rows∧rows.length≤c∧o+2*rows.length≤A.length:=by
   rcases H.hr with ⟨_,e⟩ | H'
   ·rw [e] at hi'; simp at hi'
   ·exact H'
  have q1:=(hsame d (I0 d _ hd).1 (by simp)).trans hgd
  obtain ⟨q5,_,_⟩:=row_at hA h2 hi'
  have hB:=H.by_ _ (List.getElem_mem hi')
  have eK:keysL (rows.take (i+1))=keysL (rows.take i)++[rows[i].1]:=by
   have h0:rows.take (i+1)=rows.take i++[rows[i]]:=by rw [List.take_add_one,List.getElem?_eq_getElem hi']; rfl
   unfold keysL
   rw [h0,List.map_append]; rfl
  obtain ⟨r,hr⟩:∃ r,rows[i]=r:=⟨_,rfl⟩
  rw [hr] at q5 hB eK
  have q6:(A.drop (o+i*2)).take 2=[.s (.string (ofI r.1)),.s (.int .i64 r.2)]:=q5
  simp [hi',blt_dec,cellsAt,q1,ble_dec,show o+i*2+2≤A.length by omega,q6,storeCells,cellsOwn,Rope.put,Tree.get_set,mkConv_s,Mk.val,norm_bytes hB.1]
  rw [ofI_size]
  refine keys_snoc (b:=n+1) (m:=n+1+1) (k:=r.1) hK hlt hn (by omega) (by simp [keysL]; omega) (fun x hx=>by rw [Tree.get_set,if_neg (by omega),Tree.get_set,if_neg (by omega),Tree.get_set,if_neg (by omega)]) (by omega) (by omega) (by rw [Tree.get_set,if_pos rfl]) ?_
  intro v' h6 n6 hn6 hK6 hs6
  simp [roundQ]
  exact ⟨rows.length-(i+1),by omega,h6,fun hok b o hb=>⟨o,hb,hok b o hb⟩,i+1,rfl,by omega,v',h6,n6,by rw [e3]; exact F249_L110100_of,by omega,by rw [eK]; exact hK6,fun x hx _=>by rw [hs6 x hx,hsame x hx (by simp)]⟩
 ·have:i=rows.length:=by omega
  subst this
  rw [List.take_of_length_le (Nat.le_refl _)] at hK
  simp [roundQ]
  exact hQ _ _ h n _ F249_L110100_of hn hK hsame
theorem lruKeys_ok {τ:Gh} {h:Heap} {n lb j key most:Nat} {rows:List (List Int×Int)} (I:TInv τ h n) (ht:τ lb=some (.lru j key most rows)) :
  CallK CC 249 [.ptr lb 0] h n fun v h' n'=>KeysAt n n' h' v (keysL rows)∧Same n [] h h':=by
 refine F249_call fun hlt=>?_
 rw [F249_eq]
 obtain ⟨v,H⟩:=LruAt.of_inv I ht
 have hg:=H.hg
 have e:=rows_len H.hr h
 simp [cellsAt,hg,(rows_norm H.hr).1,e]
 refine lkeys_loop I (I lb _ ht).1 H ?_ _ _ ⟨0,_,h,n,rfl,by omega,F249_L110100_of,by omega,⟨n,[],GrowAt.nil _ _ _,Off0.nil,KeysIn.nil _ _ _ _,by omega,.inr rfl⟩,Same.refl _ _ _⟩
 intro t3 t11 h' n' s hs hn hK hsame
 obtain ⟨g',rfl⟩:=hs
 rw [F249_r110100_0]
 exact ⟨hK,hsame⟩
end Go.Ev
end
