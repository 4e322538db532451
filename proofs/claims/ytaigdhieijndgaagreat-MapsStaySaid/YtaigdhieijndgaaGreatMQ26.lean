import Derived.Test.YtaigdhieijndgaaGreatMQ25
import Derived.Test.YtaigdhieijndgaaGreatEQ14
import Derived.Test.YtaigdhieijndgaaGreatEQ13
section
namespace Go.Ev
open Proofs
set_option maxRecDepth 20000
def HashR.full (R:HashR) (p:Nat):Prop:=p<R.st.length∧R.st.getD p 0=1
structure HInv (R:HashR):Prop where
 fine:R.Fine
 one:∀ p q,R.full p→R.full q→keyAt R p=keyAt R q→p=q
 reach:∀ p,R.full p→∃ i,i<R.st.length∧(firstF R (keyAt R p)+i) % R.st.length=p∧∀ j,j<i→R.st.getD ((firstF R (keyAt R p)+j) % R.st.length) 0≠0
 n0:R.n=((keysH R R.st.length).length:Nat)
 nm:R.n≤R.mx
 m64:R.mx≤64
 big:2*R.mx≤(R.st.length:Nat)
 mx1:1≤R.mx
theorem placeG_some {R:HashR} {k:List Int} {f:Nat} (h0:0<R.st.length):∀ m i p,placeG R k f m i=some p→R.full p∧keyAt R p=k
 | 0,_,_,e=>by cases e
 | m+1,i,p,e=>by
  unfold placeG at e
  split at e
  ·cases e
  ·split at e
   ·rename_i h; cases e; exact ⟨⟨Nat.mod_lt _ h0,h.1⟩,h.2⟩
   ·exact placeG_some h0 m (i+1) p e
theorem placeG_found {R:HashR} {k:List Int} {f p:Nat} (h1:∀ q,R.full q→keyAt R q=k→q=p) (hp:R.full p) (hk:keyAt R p=k):∀ (m i d:Nat),d<m→(f+(i+d)) % R.st.length=p→(∀ j,j<d→R.st.getD ((f+(i+j)) % R.st.length) 0≠0)→placeG R k f m i=some p
 | 0,_,_,h,_,_=>by omega
 | m+1,i,0,_,h,_=>by
  rw [Nat.add_zero] at h
  unfold placeG
  rw [h,if_neg (by rw [hp.2]; decide),if_pos ⟨hp.2,hk⟩]
 | m+1,i,d+1,hd,h,hj=>by
  have h0:=hj 0 (by omega)
  rw [Nat.add_zero] at h0
  have hpos:0<R.st.length:=by have:=hp.1; omega
  unfold placeG
  rw [if_neg h0]
  split
  ·rename_i hh
   exact congrArg some (h1 _ ⟨Nat.mod_lt _ hpos,hh.1⟩ hh.2)
  ·refine placeG_found h1 hp hk m (i+1) d (by omega) (by rw [← h]; congr 1; omega) fun j hjd=>?_
   have:=hj (j+1) (by omega)
   rwa [show f+(i+(j+1))=f+(i+1+j) by omega] at this
theorem place_iff {R:HashR} (H:HInv R) {k:List Int} {p:Nat}:placeF R k=some p↔R.full p∧keyAt R p=k:=by
 have hpos:0<R.st.length:=by have:=H.fine.p1; omega
 constructor
 ·intro e
  unfold placeF at e
  split at e
  ·exact placeG_some hpos _ _ _ e
  ·cases e
 ·rintro ⟨hp,rfl⟩
  unfold placeF
  rw [if_pos (keyAt_len H.fine hp.1)]
  obtain ⟨i,hi,h1,h2⟩:=H.reach p hp
  exact placeG_found (fun q hq e=>H.one q p hq hp e) hp rfl _ 0 i hi (by rw [Nat.zero_add]; exact h1) fun j hj=>by rw [Nat.zero_add]; exact h2 j hj
theorem findH_iff {R:HashR} (H:HInv R) {k:List Int} {x:Int}:findH R k=some x↔∃ p,R.full p∧keyAt R p=k∧R.cs.getD p 0=x:=by
 unfold findH
 constructor
 ·intro e
  cases hp:placeF R k with
  | none=>rw [hp] at e; cases e
  | some p=>rw [hp] at e; cases e; have:=(place_iff H).1 hp; exact ⟨p,this.1,this.2,rfl⟩
 ·rintro ⟨p,h1,h2,rfl⟩
  rw [(place_iff H).2 ⟨h1,h2⟩]; rfl
theorem keysH_iff {R:HashR} {k:List Int}:k∈keysH R R.st.length↔∃ p,R.full p∧keyAt R p=k:=by
 constructor
 ·intro h
  obtain ⟨p,h1,h2,h3⟩:=keysH_mem h
  exact ⟨p,⟨h1,h2⟩,h3.symm⟩
 ·rintro ⟨p,hp,rfl⟩
  exact List.mem_map.2 ⟨p,List.mem_filter.2 ⟨List.mem_range.2 hp.1,decide_eq_true hp.2⟩,rfl⟩
theorem nodup_map {α β:Type} {f:α→β}:∀ {l:List α},l.Nodup→(∀ a∈l,∀ b∈l,f a=f b→a=b)→(l.map f).Nodup
 | [],_,_=>.nil
 | a::l,h,inj=>by
  rw [List.nodup_cons] at h
  rw [List.map_cons,List.nodup_cons]
  refine ⟨fun hm=>?_,nodup_map h.2 fun x hx y hy=>inj x (List.mem_cons_of_mem _ hx) y (List.mem_cons_of_mem _ hy)⟩
  obtain ⟨b,hb,e⟩:=List.mem_map.1 hm
  have:=inj b (List.mem_cons_of_mem _ hb) a List.mem_cons_self e
  exact h.1 (this ▸ hb)
theorem keysH_nodup {R:HashR} (H:HInv R):(keysH R R.st.length).Nodup:=by
 unfold keysH
 refine nodup_map (List.nodup_range.filter _) fun a ha b hb e=>?_
 have h1:=List.mem_filter.1 ha
 have h2:=List.mem_filter.1 hb
 exact H.one a b ⟨List.mem_range.1 h1.1,of_decide_eq_true h1.2⟩ ⟨List.mem_range.1 h2.1,of_decide_eq_true h2.2⟩ e
theorem filter_one {α:Type} {P P':α→Bool} {p:α}:∀ {l:List α},l.Nodup→p∈l→P p=false→P' p=true→(∀ q,q≠p→P' q=P q)→(l.filter P').length=(l.filter P).length+1
 | [],_,h,_,_,_=>by cases h
 | a::l,hn,h,h1,h2,h3=>by
  rw [List.nodup_cons] at hn
  by_cases ha:a=p
  ·subst ha
   have e:l.filter P'=l.filter P:=List.filter_congr fun q hq=>h3 q (by rintro rfl; exact hn.1 hq)
   rw [List.filter_cons_of_pos h2,List.filter_cons_of_neg (by rw [h1]; decide),e]; rfl
  ·have hm:p∈l:=by
    rcases List.mem_cons.1 h with h | h
    ·exact absurd h.symm ha
    ·exact h
   have ih:=filter_one hn.2 hm h1 h2 h3
   cases hP:P a with
   | true=>rw [List.filter_cons_of_pos (by rw [h3 a ha,hP]),List.filter_cons_of_pos hP]; simp [ih]
   | false=>rw [List.filter_cons_of_neg (by rw [h3 a ha,hP]; decide),List.filter_cons_of_neg (by rw [hP]; decide)]; exact ih
theorem slotG_some {R:HashR} {f:Nat} (h0:0<R.st.length):∀ m i p,slotG R f m i=some p→p<R.st.length∧R.st.getD p 0≠1∧∃ d,d<m∧(f+(i+d)) % R.st.length=p∧∀ j,j<d→R.st.getD ((f+(i+j)) % R.st.length) 0=1
 | 0,_,_,e=>by cases e
 | m+1,i,p,e=>by
  unfold slotG at e
  split at e
  ·rename_i h
   cases e
   exact ⟨Nat.mod_lt _ h0,h,0,by omega,rfl,fun j hj=>by omega⟩
  ·rename_i h
   obtain ⟨h1,h2,d,h3,h4,h5⟩:=slotG_some h0 m (i+1) p e
   refine ⟨h1,h2,d+1,by omega,by rw [← h4]; congr 1; omega,fun j hj=>?_⟩
   cases j with
   | zero=>rw [Nat.add_zero]; exact Classical.not_not.1 h
   | succ j=>
    have:=h5 j (by omega)
    rwa [show f+(i+(j+1))=f+(i+1+j) by omega]
theorem slotG_none {R:HashR} {f:Nat}:∀ m i,slotG R f m i=none→∀ j,j<m→R.st.getD ((f+(i+j)) % R.st.length) 0=1
 | 0,_,_,_,h=>by omega
 | m+1,i,e,j,hj=>by
  unfold slotG at e
  split at e
  ·cases e
  ·rename_i h
   cases j with
   | zero=>rw [Nat.add_zero]; exact Classical.not_not.1 h
   | succ j=>
    have:=slotG_none m (i+1) e j (by omega)
    rwa [show f+(i+(j+1))=f+(i+1+j) by omega]
theorem mod_hit {P f p:Nat} (hp:p<P) (hf:f<P):∃ i,i<P∧(f+i) % P=p:=by
 by_cases h:f≤p
 ·exact ⟨p-f,by omega,by rw [show f+(p-f)=p by omega]; exact Nat.mod_eq_of_lt hp⟩
 ·refine ⟨P+p-f,by omega,?_⟩
  rw [show f+(P+p-f)=p+P by omega,Nat.add_mod_right]
  exact Nat.mod_eq_of_lt hp
theorem slot_there {R:HashR} (H:HInv R) (hn:R.n<R.mx) (k:List Int):∃ p,slotG R (firstF R k) R.st.length 0=some p:=by
 have hpos:0<R.st.length:=by have:=H.fine.p1; omega
 cases e:slotG R (firstF R k) R.st.length 0 with
 | some p=>exact ⟨p,rfl⟩
 | none=>
  exfalso
  have all:∀ p,p<R.st.length→R.st.getD p 0=1:=fun p hp=>by
   obtain ⟨i,hi,e2⟩:=mod_hit hp (show firstF R k<R.st.length from Nat.mod_lt _ hpos)
   have:=slotG_none _ _ e i hi
   rw [Nat.zero_add,e2] at this
   exact this
  have hf:(List.range R.st.length).filter (fun p=>R.st.getD p 0=1)=List.range R.st.length:=List.filter_eq_self.2 fun p hp=>decide_eq_true (all p (List.mem_range.1 hp))
  have hl:(keysH R R.st.length).length=R.st.length:=by unfold keysH; rw [List.length_map,hf,List.length_range]
  have h1:=H.n0
  have h2:=H.big
  have h3:=H.mx1
  rw [hl] at h1
  omega
theorem getD_splice {l m:List Int} {o i:Nat} (h:o+m.length≤l.length):(splice l o m).getD i 0=if o≤i∧i<o+m.length then m.getD (i-o) 0 else l.getD i 0:=by
 rw [List.getD_eq_getElem?_getD,splice_at h]
 split <;> rw [List.getD_eq_getElem?_getD]
theorem keyAt_splice {R R':HashR} (F:R.Fine) {p q:Nat} {k:List Int} (hk:k.length=R.key) (hp:p<R.st.length) (hq:q<R.st.length) (e1:R'.key=R.key) (e2:R'.ks=splice R.ks (p*R.key) k):keyAt R' q=if q=p then k else keyAt R q:=by
 have hle:(p+1)*R.key≤R.st.length*R.key:=Nat.mul_le_mul_right _ (by omega)
 have hleq:(q+1)*R.key≤R.st.length*R.key:=Nat.mul_le_mul_right _ (by omega)
 rw [Nat.add_mul,← F.ks] at hle hleq
 unfold keyAt
 rw [e1,e2]
 apply List.ext_getElem?
 intro i
 by_cases hi:i<R.key
 ·rw [List.getElem?_take_of_lt hi,List.getElem?_drop,splice_at (by omega),hk]
  by_cases hqp:q=p
  ·subst hqp
   rw [if_pos rfl,if_pos (by omega)]
   congr 1; omega
  ·rw [if_neg hqp]
   have hno:¬ (p*R.key≤q*R.key+i∧q*R.key+i<p*R.key+R.key):=by
    rintro ⟨h1,h2⟩
    rcases Nat.lt_or_gt_of_ne hqp with h | h
    ·have:=Nat.mul_le_mul_right R.key (show q+1≤p by omega)
     rw [Nat.add_mul] at this; omega
    ·have:=Nat.mul_le_mul_right R.key (show p+1≤q by omega)
     rw [Nat.add_mul] at this; omega
   rw [if_neg hno,List.getElem?_take_of_lt hi,List.getElem?_drop]
 ·rw [List.getElem?_take_eq_none (by omega)]
  split
  ·rw [List.getElem?_eq_none (by omega)]
  ·rw [List.getElem?_take_eq_none (by omega)]
theorem put_inv {R:HashR} (H:HInv R) {k:List Int} (hk:k.length=R.key) (hB:Byt k) (hno:placeF R k=none) (hn:R.n≠R.mx) (c:Int) :
  HInv (putF R k c)∧∀ k' x,findH (putF R k c) k'=some x↔(k'=k∧x=c)∨(k'≠k∧findH R k'=some x):=by
 have hpos:0<R.st.length:=by have:=H.fine.p1; omega
 obtain ⟨p,hp⟩:=slot_there H (by have:=H.nm; omega) k
 obtain ⟨hpl,hp1,d,hd,hdp,hdj⟩:=slotG_some hpos _ _ _ hp
 simp only [Nat.zero_add] at hdp hdj
 have e0:putF R k c={ R with ks:=splice R.ks (p*R.key) k,st:=splice R.st p [1],cs:=splice R.cs p [c],n:=wrapF .i64 (R.n+1) }:=by
  unfold putF
  rw [if_pos ⟨hk,hno,hn⟩]
  unfold putG
  rw [hp]
 have F':=(putF_fine (cell:=c) H.fine hB (k:=k)).1
 rw [e0] at F' ⊢
 obtain ⟨R',hR'⟩:∃ R':HashR,R'={ R with ks:=splice R.ks (p*R.key) k,st:=splice R.st p [1],cs:=splice R.cs p [c],n:=wrapF .i64 (R.n+1) }:=⟨_,rfl⟩
 rw [← hR'] at F' ⊢
 have ek:R'.key=R.key:=by rw [hR']
 have em:R'.mx=R.mx:=by rw [hR']
 have eks:R'.ks=splice R.ks (p*R.key) k:=by rw [hR']
 have est:R'.st=splice R.st p [1]:=by rw [hR']
 have ecs:R'.cs=splice R.cs p [c]:=by rw [hR']
 have en:R'.n=wrapF .i64 (R.n+1):=by rw [hR']
 have el:R'.st.length=R.st.length:=by rw [est]; exact splice_length (by simp; omega)
 have hcs:=H.fine.cs
 have gst:∀ q,R'.st.getD q 0=if q=p then 1 else R.st.getD q 0:=fun q=>by
  rw [est,getD_splice (by simp; omega)]
  by_cases hq:q=p
  ·subst hq; rw [if_pos (by simp),if_pos rfl,Nat.sub_self]; rfl
  ·rw [if_neg (by simp; omega),if_neg hq]
 have gcs:∀ q,R'.cs.getD q 0=if q=p then c else R.cs.getD q 0:=fun q=>by
  rw [ecs,getD_splice (by simp; omega)]
  by_cases hq:q=p
  ·subst hq; rw [if_pos (by simp),if_pos rfl,Nat.sub_self]; rfl
  ·rw [if_neg (by simp; omega),if_neg hq]
 have gk:∀ q,q<R.st.length→keyAt R' q=if q=p then k else keyAt R q:=fun q hq=>keyAt_splice H.fine hk hpl hq ek eks
 have gf:∀ q,R'.full q↔q=p∨R.full q:=fun q=>by
  unfold HashR.full
  rw [el,gst]
  by_cases hq:q=p
  ·subst hq; simp [hpl]
  ·simp [hq]
 have ff:∀ k',firstF R' k'=firstF R k':=fun k'=>by unfold firstF; rw [el]
 have nk:∀ q,R.full q→keyAt R q≠k:=fun q hq e=>by
  have:=(place_iff H).2 ⟨hq,e⟩
  rw [hno] at this; cases this
 have pn:∀ q,R.full q→q≠p:=fun q hq e=>hp1 (e ▸ hq.2)
 have kq:∀ q,R.full q→keyAt R' q=keyAt R q:=fun q hq=>by rw [gk q hq.1,if_neg (pn q hq)]
 have kp:keyAt R' p=k:=by rw [gk p hpl,if_pos rfl]
 have HI:HInv R':=by
  refine ⟨F',fun q r hq hr e=>?_,fun q hq=>?_,?_,?_,by rw [em]; exact H.m64,by rw [em,el]; exact H.big,by rw [em]; exact H.mx1⟩
  ·rcases (gf q).1 hq with rfl | hq
   ·rcases (gf r).1 hr with rfl | hr
    ·rfl
    ·rw [kp,kq r hr] at e; exact absurd e.symm (nk r hr)
   ·rcases (gf r).1 hr with rfl | hr
    ·rw [kp,kq q hq] at e; exact absurd e (nk q hq)
    ·rw [kq q hq,kq r hr] at e; exact H.one q r hq hr e
  ·rw [el]
   rcases (gf q).1 hq with rfl | hq
   ·rw [kp,ff]
    exact ⟨d,hd,hdp,fun j hj=>by rw [gst]; split; decide; rw [hdj j hj]; decide⟩
   ·rw [kq q hq,ff]
    obtain ⟨i,h1,h2,h3⟩:=H.reach q hq
    exact ⟨i,h1,h2,fun j hj=>by rw [gst]; split; decide; exact h3 j hj⟩
  ·have hl:(keysH R' R'.st.length).length=(keysH R R.st.length).length+1:=by
    unfold keysH
    rw [List.length_map,List.length_map,el]
    refine filter_one List.nodup_range (List.mem_range.2 hpl) (decide_eq_false hp1) (decide_eq_true (by rw [gst,if_pos rfl])) fun q hq=>by rw [gst,if_neg hq]
   have h1:=H.n0
   have h2:=H.nm
   have h3:=H.m64
   rw [en,wrapF_i64 (by omega) (by omega),hl,h1]; rfl
  ·have h1:=H.n0
   have h2:=H.nm
   have h3:=H.m64
   rw [en,em,wrapF_i64 (by omega) (by omega)]; omega
 refine ⟨HI,fun k' x=>?_⟩
 rw [findH_iff HI,findH_iff H]
 constructor
 ·rintro ⟨q,hq,h2,h3⟩
  rw [gcs] at h3
  rcases (gf q).1 hq with rfl | hq
  ·rw [kp] at h2; rw [if_pos rfl] at h3; exact .inl ⟨h2.symm,h3.symm⟩
  ·rw [kq q hq] at h2; rw [if_neg (pn q hq)] at h3
   exact .inr ⟨by rw [← h2]; exact nk q hq,q,hq,h2,h3⟩
 ·rintro (⟨rfl,rfl⟩ | ⟨hne,q,hq,h2,h3⟩)
  ·exact ⟨p,(gf p).2 (.inl rfl),kp,by rw [gcs,if_pos rfl]⟩
  ·exact ⟨q,(gf q).2 (.inr hq),by rw [kq q hq]; exact h2,by rw [gcs,if_neg (pn q hq)]; exact h3⟩
theorem del_inv {R:HashR} (H:HInv R) (k:List Int):HInv (delH R k)∧∀ k' x,findH (delH R k) k'=some x↔k'≠k∧findH R k'=some x:=by
 cases hp:placeF R k with
 | none=>
  have e:delH R k=R:=by unfold delH; rw [hp]
  rw [e]
  refine ⟨H,fun k' x=>⟨fun h=>⟨?_,h⟩,fun h=>h.2⟩⟩
  rintro rfl
  unfold findH at h
  rw [hp] at h; cases h
 | some p=>
  have F':=delH_fine (k:=k) H.fine
  obtain ⟨hpf,hpk⟩:=(place_iff H).1 hp
  have e0:delH R k={ R with st:=splice R.st p [2],n:=wrapF .i64 (R.n-1) }:=by unfold delH; rw [hp]
  rw [e0] at F' ⊢
  obtain ⟨R',hR'⟩:∃ R':HashR,R'={ R with st:=splice R.st p [2],n:=wrapF .i64 (R.n-1) }:=⟨_,rfl⟩
  rw [← hR'] at F' ⊢
  have em:R'.mx=R.mx:=by rw [hR']
  have est:R'.st=splice R.st p [2]:=by rw [hR']
  have ecs:R'.cs=R.cs:=by rw [hR']
  have en:R'.n=wrapF .i64 (R.n-1):=by rw [hR']
  have hpl:=hpf.1
  have el:R'.st.length=R.st.length:=by rw [est]; exact splice_length (by simp; omega)
  have gst:∀ q,R'.st.getD q 0=if q=p then 2 else R.st.getD q 0:=fun q=>by
   rw [est,getD_splice (by simp; omega)]
   by_cases hq:q=p
   ·subst hq; rw [if_pos (by simp),if_pos rfl,Nat.sub_self]; rfl
   ·rw [if_neg (by simp; omega),if_neg hq]
  have gk:∀ q,keyAt R' q=keyAt R q:=fun q=>by unfold keyAt; rw [hR']
  have gf:∀ q,R'.full q↔q≠p∧R.full q:=fun q=>by
   unfold HashR.full
   rw [el,gst]
   by_cases hq:q=p
   ·subst hq; simp
   ·simp [hq]
  have ff:∀ k',firstF R' k'=firstF R k':=fun k'=>by unfold firstF; rw [el]
  have HI:HInv R':=by
   have hl:(keysH R R.st.length).length=(keysH R' R'.st.length).length+1:=by
    unfold keysH
    rw [List.length_map,List.length_map,el]
    refine filter_one List.nodup_range (List.mem_range.2 hpl) (decide_eq_false (by rw [gst,if_pos rfl]; decide)) (decide_eq_true hpf.2) fun q hq=>by rw [gst,if_neg hq]
   have h1:=H.n0
   have h2:=H.nm
   have h3:=H.m64
   refine ⟨F',fun q r hq hr e=>?_,fun q hq=>?_,?_,?_,by rw [em]; exact H.m64,by rw [em,el]; exact H.big,by rw [em]; exact H.mx1⟩
   ·rw [gk,gk] at e; exact H.one q r ((gf q).1 hq).2 ((gf r).1 hr).2 e
   ·rw [el,gk,ff]
    obtain ⟨i,h1,h2,h3⟩:=H.reach q ((gf q).1 hq).2
    exact ⟨i,h1,h2,fun j hj=>by rw [gst]; split; decide; exact h3 j hj⟩
   ·rw [en,wrapF_i64 (by omega) (by omega)]; omega
   ·rw [en,em,wrapF_i64 (by omega) (by omega)]; omega
  refine ⟨HI,fun k' x=>?_⟩
  rw [findH_iff HI,findH_iff H]
  constructor
  ·rintro ⟨q,hq,h2,h3⟩
   rw [gk] at h2
   rw [ecs] at h3
   obtain ⟨h4,h5⟩:=(gf q).1 hq
   refine ⟨fun e=>h4 (H.one q p h5 hpf (by rw [h2,e,hpk])),q,h5,h2,h3⟩
  ·rintro ⟨hne,q,hq,h2,h3⟩
   exact ⟨q,(gf q).2 ⟨fun e=>hne (by rw [← h2,e,hpk]),hq⟩,by rw [gk]; exact h2,by rw [ecs]; exact h3⟩
theorem new_inv {key mx:Nat} (k1:1≤key) (k16:key≤16) (m1:1≤mx) (m64:mx≤64):HInv (newH key mx)∧∀ k,findH (newH key mx) k=none:=by
 have hp:=placesF_le m64
 have hs:∀ p,(newH key mx).st.getD p 0=0:=fun p=>by
  simp only [newH,List.getD_eq_getElem?_getD,List.getElem?_replicate]
  split <;> rfl
 have hf:∀ p,¬ (newH key mx).full p:=fun p h=>by have:=h.2; rw [hs] at this; cases this
 have HI:HInv (newH key mx):=by
  refine ⟨newH_fine k1 k16 m64,fun p _ h=>absurd h (hf p),fun p h=>absurd h (hf p),?_,by show (0:Int)≤(mx:Nat); omega,by show ((mx:Nat):Int)≤64; omega,by simp only [newH,List.length_replicate]; omega,by show (1:Int)≤(mx:Nat); omega⟩
  have:keysH (newH key mx) (newH key mx).st.length=[]:=by
   unfold keysH
   rw [List.filter_eq_nil_iff.2 fun p _=>by rw [hs]; decide]; rfl
  rw [this]; rfl
 refine ⟨HI,fun k=>?_⟩
 cases e:findH (newH key mx) k with
 | none=>rfl
 | some x=>
  obtain ⟨p,h,_⟩:=(findH_iff HI).1 e
  exact absurd h (hf p)
end Go.Ev
end
section
namespace Go.Ev
open Proofs
set_option maxRecDepth 20000
structure LInv (key most:Nat) (rows:List (List Int×Int)):Prop where
 nd:(rows.map (·.1)).Nodup
 kl:∀ r∈rows,r.1.length=key
 lm:rows.length≤most
def lruGet (rows:List (List Int×Int)) (k:List Int):Option Int:=(idxL rows k).map fun i=>(rows.getD i ([],0)).2
theorem idxL_some:∀ {rows:List (List Int×Int)} {k:List Int} {i:Nat},idxL rows k=some i→∃ x,rows[i]? = some (k,x)
 | [],_,_,e=>by cases e
 | r::l,k,i,e=>by
  unfold idxL at e
  split at e
  ·rename_i h; cases e; exact ⟨r.2,by rw [← h]; rfl⟩
  ·cases h:idxL l k with
   | none=>rw [h] at e; cases e
   | some m=>
    rw [h] at e; cases e
    obtain ⟨x,hx⟩:=idxL_some h
    exact ⟨x,by simpa using hx⟩
theorem idxL_mem:∀ {rows:List (List Int×Int)} {k:List Int} {x:Int},(k,x)∈rows→∃ i,idxL rows k=some i
 | [],_,_,h=>by cases h
 | r::l,k,x,h=>by
  unfold idxL
  by_cases hr:r.1=k
  ·exact ⟨0,by rw [if_pos hr]⟩
  ·rcases List.mem_cons.1 h with h | h
   ·exact absurd (by rw [← h]) hr
   ·obtain ⟨i,hi⟩:=idxL_mem h
    exact ⟨i+1,by rw [if_neg hr,hi]; rfl⟩
theorem key_uniq {rows:List (List Int×Int)} (nd:(rows.map (·.1)).Nodup) {k:List Int} {x y:Int} (h1:(k,x)∈rows) (h2:(k,y)∈rows):x=y:=by
 obtain ⟨i,hi⟩:=List.mem_iff_getElem?.1 h1
 obtain ⟨j,hj⟩:=List.mem_iff_getElem?.1 h2
 have hl:i<(rows.map (·.1)).length:=by have:=(List.getElem?_eq_some_iff.1 hi).1; simpa using this
 have:i=j:=(List.getElem?_inj hl nd).1 (by simp [hi,hj])
 subst this
 rw [hi] at hj; cases hj; rfl
theorem lruGet_iff {rows:List (List Int×Int)} (nd:(rows.map (·.1)).Nodup) {k:List Int} {x:Int}:lruGet rows k=some x↔(k,x)∈rows:=by
 unfold lruGet
 constructor
 ·intro e
  cases h:idxL rows k with
  | none=>rw [h] at e; cases e
  | some i=>
   rw [h] at e
   obtain ⟨y,hy⟩:=idxL_some h
   rw [Option.map_some,List.getD_eq_getElem?_getD,hy] at e
   cases e
   exact List.mem_of_getElem? hy
 ·intro h
  obtain ⟨i,hi⟩:=idxL_mem h
  obtain ⟨y,hy⟩:=idxL_some hi
  rw [hi,Option.map_some,List.getD_eq_getElem?_getD,hy]
  exact congrArg some (key_uniq nd (List.mem_of_getElem? hy) h)
theorem outL_erase (rows:List (List Int×Int)) (i:Nat):outL rows i=rows.eraseIdx i:=by
 unfold outL
 rw [List.eraseIdx_eq_take_drop_succ]
theorem outL_nd {rows:List (List Int×Int)} (nd:(rows.map (·.1)).Nodup) (i:Nat):((outL rows i).map (·.1)).Nodup:=by
 rw [outL_erase]
 exact nd.sublist ((List.eraseIdx_sublist rows i).map _)
theorem outL_iff {rows:List (List Int×Int)} (nd:(rows.map (·.1)).Nodup) {i:Nat} {r:List Int×Int} (hi:rows[i]? = some r) {k:List Int} {x:Int}:(k,x)∈outL rows i↔(k,x)∈rows∧k≠r.1:=by
 rw [outL_erase,List.mem_eraseIdx_iff_getElem?]
 constructor
 ·rintro ⟨j,hj,e⟩
  refine ⟨List.mem_of_getElem? e,?_⟩
  rintro rfl
  have hl:i<(rows.map (·.1)).length:=by have:=(List.getElem?_eq_some_iff.1 hi).1; simpa using this
  exact hj ((List.getElem?_inj hl nd).1 (by simp [hi,e])).symm
 ·rintro ⟨h,hne⟩
  obtain ⟨j,hj⟩:=List.mem_iff_getElem?.1 h
  refine ⟨j,?_,hj⟩
  rintro rfl
  rw [hi] at hj; cases hj; exact hne rfl
theorem erase_perm {α:Type}:∀ {l:List α} {i:Nat} (h:i<l.length),(l[i]::l.eraseIdx i).Perm l
 | _::_,0,_=>.refl _
 | a::l,i+1,h=>by
  have h':i<l.length:=by simpa using h
  exact (List.Perm.swap _ _ _).trans ((erase_perm h').cons a)
theorem outL_perm {rows:List (List Int×Int)} {i:Nat} (hi:i<rows.length):(rows.getD i ([],0)::outL rows i).Perm rows:=by
 rw [outL_erase,List.getD_eq_getElem?_getD,List.getElem?_eq_getElem hi]
 exact erase_perm hi
theorem findL_inv {key most:Nat} {rows:List (List Int×Int)} (H:LInv key most rows) (k:List Int):LInv key most (findL rows k)∧∀ k' x,lruGet (findL rows k) k'=some x↔lruGet rows k'=some x:=by
 have hp:(findL rows k).Perm rows:=by
  unfold findL
  split
  ·rename_i i hi; exact outL_perm (idxL_lt hi)
  ·exact .refl _
 have nd':((findL rows k).map (·.1)).Nodup:=(hp.map (·.1)).nodup_iff.2 H.nd
 refine ⟨⟨nd',fun r hr=>H.kl r (hp.mem_iff.1 hr),by rw [hp.length_eq]; exact H.lm⟩,fun k' x=>?_⟩
 rw [lruGet_iff nd',lruGet_iff H.nd,hp.mem_iff]
theorem delL_inv {key most:Nat} {rows:List (List Int×Int)} (H:LInv key most rows) (k:List Int):LInv key most (delL rows k)∧∀ k' x,lruGet (delL rows k) k'=some x↔k'≠k∧lruGet rows k'=some x:=by
 unfold delL
 cases h:idxL rows k with
 | none=>
  refine ⟨H,fun k' x=>⟨fun e=>⟨?_,e⟩,fun e=>e.2⟩⟩
  rintro rfl
  unfold lruGet at e
  rw [h] at e; cases e
 | some i=>
  obtain ⟨y,hy⟩:=idxL_some h
  have nd':=outL_nd H.nd i
  refine ⟨⟨nd',fun r hr=>H.kl r (outL_mem hr),Nat.le_trans (by rw [outL_len (idxL_lt h)]; omega) H.lm⟩,fun k' x=>?_⟩
  show lruGet (outL rows i) k'=some x↔_
  rw [lruGet_iff nd',lruGet_iff H.nd,outL_iff H.nd hy]
  exact And.comm
theorem putL_inv {key most:Nat} {rows:List (List Int×Int)} (H:LInv key most rows) (hm:1≤most) {k:List Int} (hk:k.length=key) (hno:idxL rows k=none) (c:Int):LInv key most (putL most rows k c) ∧
  ∀ k' x,lruGet (putL most rows k c) k'=some x↔(k'=k∧x=c)∨(k'≠k∧lruGet rows k'=some x∧(rows.length=most→k'≠(goneL most rows).1)):=by
 have nk:∀ x,(k,x) ∉ rows:=fun x h=>by
  obtain ⟨i,hi⟩:=idxL_mem h
  rw [hno] at hi; cases hi
 unfold putL goneL
 by_cases hf:rows.length=most
 ·rw [if_pos hf,if_pos hf]
  have hi:rows[most-1]? = some (rows.getD (most-1) ([],0)):=by rw [List.getD_eq_getElem?_getD,List.getElem?_eq_getElem (by omega)]; rfl
  have nd':(((k,c)::outL rows (most-1)).map (·.1)).Nodup:=by
   rw [List.map_cons,List.nodup_cons]
   refine ⟨fun h=>?_,outL_nd H.nd _⟩
   obtain ⟨⟨k',x⟩,h1,h2⟩:=List.mem_map.1 h
   have h3:k'=k:=h2
   subst h3
   exact nk x (outL_mem h1)
  refine ⟨⟨nd',fun r hr=>?_,by rw [List.length_cons,outL_len (by omega)]; omega⟩,fun k' x=>?_⟩
  ·rcases List.mem_cons.1 hr with rfl | hr
   ·exact hk
   ·exact H.kl r (outL_mem hr)
  ·rw [lruGet_iff nd',List.mem_cons,outL_iff H.nd hi,lruGet_iff H.nd]
   constructor
   ·rintro (h | ⟨h1,h2⟩)
    ·cases h; exact .inl ⟨rfl,rfl⟩
    ·exact .inr ⟨by rintro rfl; exact nk x h1,h1,fun _=>h2⟩
   ·rintro (⟨rfl,rfl⟩ | ⟨h0,h1,h2⟩)
    ·exact .inl rfl
    ·exact .inr ⟨h1,h2 hf⟩
 ·rw [if_neg hf,if_neg hf]
  have nd':(((k,c)::rows).map (·.1)).Nodup:=by
   rw [List.map_cons,List.nodup_cons]
   refine ⟨fun h=>?_,H.nd⟩
   obtain ⟨⟨k',x⟩,h1,h2⟩:=List.mem_map.1 h
   have h3:k'=k:=h2
   subst h3
   exact nk x h1
  refine ⟨⟨nd',fun r hr=>?_,by have:=H.lm; simp; omega⟩,fun k' x=>?_⟩
  ·rcases List.mem_cons.1 hr with rfl | hr
   ·exact hk
   ·exact H.kl r hr
  ·rw [lruGet_iff nd',List.mem_cons,lruGet_iff H.nd]
   constructor
   ·rintro (h | h)
    ·cases h; exact .inl ⟨rfl,rfl⟩
    ·exact .inr ⟨by rintro rfl; exact nk x h,h,fun e=>absurd e hf⟩
   ·rintro (⟨rfl,rfl⟩ | ⟨h0,h1,h2⟩)
    ·exact .inl rfl
    ·exact .inr h1
inductive Sl where
 | ix (n:Nat)
 | ky (k:List Int)
def cellS (o:OneM) (s:Sl):Option Int:=match o.by_,s with
 | .arr ids,.ix n=>ids[n]?
 | .hash R,.ky k=>findH R k
 | .lru _ _ rows,.ky k=>lruGet rows k
 | _,_=>none
def RepO (o:OneM):Prop:=match o.by_ with
 | .hash R=>HInv R
 | .lru key most rows=>LInv key most rows∧1≤most∧most≤64
 | _=>True
def slotO (o:OneM) (k:List Int):Sl:=match o.by_ with
 | .arr _=>.ix (numF k).toNat
 | _=>.ky k
theorem find_slot {o:OneM} {k:List Int} {x:Int} (h:findO o k=some x):cellS o (slotO o k)=some x:=by
 unfold findO at h
 split at h
 ·unfold cellS slotO
  split at h
  ·cases h
  ·rename_i ids hb
   rw [hb]
   unfold arrF at h
   split at h
   ·cases h
   ·exact h
  ·rename_i R hb; rw [hb]; exact h
  ·rename_i key most rows hb; rw [hb]; exact h
 ·cases h
structure GoodM (M:MM):Prop where
 fine:∀ o∈M.ones,o.Fine∧RepO o
 dom:∀ x,M.C x≠none→1≤x∧x≤M.last
 la0:0≤M.last
 live:∀ o∈M.ones,∀ s x,cellS o s=some x→∃ l,M.C x=some (l,false)∧(l.length:Int)=o.d.val
 inj:∀ (i j:Nat) (o o':OneM) (s s':Sl) (x:Int),M.ones[i]? = some o→M.ones[j]? = some o'→cellS o s=some x→cellS o' s'=some x→i=j∧s=s'
theorem set_at {α:Type} {l:List α} {i j:Nat} {a b:α} (h:(l.set i a)[j]? = some b):(j=i∧b=a∧i<l.length)∨(j≠i∧l[j]? = some b):=by
 rw [List.getElem?_set] at h
 by_cases hj:i=j
 ·rw [if_pos hj] at h
  split at h
  ·cases h; exact .inl ⟨hj.symm,rfl,by assumption⟩
  ·cases h
 ·rw [if_neg hj] at h; exact .inr ⟨fun e=>hj e.symm,h⟩
theorem GoodM.less {M:MM} (G:GoodM M) {i:Nat} {o o':OneM} (hi:M.ones[i]? = some o) (hF:o'.Fine∧RepO o') (hd:o'.d.val=o.d.val) (hs:∀ s x,cellS o' s=some x→cellS o s=some x):GoodM { M with ones:=M.ones.set i o' }:=by
 have hm:=List.mem_of_getElem? hi
 refine ⟨fun p hp=>?_,G.dom,G.la0,fun p hp s x e=>?_,fun a b p q s s' x h1 h2 e1 e2=>?_⟩
 ·rcases List.mem_or_eq_of_mem_set hp with h | h
  ·exact G.fine p h
  ·rw [h]; exact hF
 ·rcases List.mem_or_eq_of_mem_set hp with h | h
  ·exact G.live p h s x e
  ·subst h
   rw [hd]
   exact G.live o hm s x (hs s x e)
 ·rcases set_at h1 with ⟨ha,rfl,_⟩ | ⟨ha,g1⟩
  ·rcases set_at h2 with ⟨hb,rfl,_⟩ | ⟨hb,g2⟩
   ·have:=G.inj i i o o s s' x hi hi (hs _ _ e1) (hs _ _ e2)
    exact ⟨ha.trans hb.symm,this.2⟩
   ·have:=G.inj i b o q s s' x hi g2 (hs _ _ e1) e2
    exact ⟨ha.trans this.1,this.2⟩
  ·rcases set_at h2 with ⟨hb,rfl,_⟩ | ⟨hb,g2⟩
   ·have:=G.inj a i p o s s' x g1 hi e1 (hs _ _ e2)
    exact ⟨this.1.trans hb.symm,this.2⟩
   ·exact G.inj a b p q s s' x g1 g2 e1 e2
theorem GoodM.more {M:MM} (G:GoodM M) {i:Nat} {o o':OneM} {v:List Int} {s0:Sl} (hi:M.ones[i]? = some o) (hF:o'.Fine∧RepO o') (hd:o'.d.val=o.d.val) (hv:(v.length:Int)=o.d.val)
  (hs:∀ s x,cellS o' s=some x→(s=s0∧x=M.last+1)∨cellS o s=some x):GoodM { M with C:=updG M.C (M.last+1) (some (v,false)),last:=M.last+1,ones:=M.ones.set i o' }:=by
 have hm:=List.mem_of_getElem? hi
 have la:=G.la0
 have old:∀ p∈M.ones,∀ s x,cellS p s=some x→x≠M.last+1:=fun p hp s x e=>by
  obtain ⟨l,h1,_⟩:=G.live p hp s x e
  have:=G.dom x (by rw [h1]; simp)
  omega
 have keep:∀ p∈M.ones,∀ s x,cellS p s=some x→∃ l,updG M.C (M.last+1) (some (v,false)) x=some (l,false)∧(l.length:Int)=p.d.val:=fun p hp s x e=>by
  rw [updG_other (old p hp s x e)]; exact G.live p hp s x e
 refine ⟨fun p hp=>?_,fun x hx=>?_,by show 0≤M.last+1; omega,fun p hp s x e=>?_,fun a b p q s s' x h1 h2 e1 e2=>?_⟩
 ·rcases List.mem_or_eq_of_mem_set hp with h | h
  ·exact G.fine p h
  ·rw [h]; exact hF
 ·show 1≤x∧x≤M.last+1
  by_cases hxl:x=M.last+1
  ·omega
  ·have:=G.dom x (by simpa [updG_other hxl] using hx); omega
 ·rcases List.mem_or_eq_of_mem_set hp with h | h
  ·exact keep p h s x e
  ·subst h
   rcases hs s x e with ⟨_,rfl⟩ | e
   ·exact ⟨v,updG_same _ _ _,by rw [hd]; exact hv⟩
   ·rw [hd]; exact keep o hm s x e
 ·rcases set_at h1 with ⟨ha,rfl,_⟩ | ⟨ha,g1⟩
  ·rcases set_at h2 with ⟨hb,rfl,_⟩ | ⟨hb,g2⟩
   ·refine ⟨ha.trans hb.symm,?_⟩
    rcases hs s x e1 with ⟨rfl,hx⟩ | e1
    ·rcases hs s' x e2 with ⟨rfl,_⟩ | e2
     ·rfl
     ·exact absurd hx (old o hm s' x e2)
    ·rcases hs s' x e2 with ⟨rfl,hx⟩ | e2
     ·exact absurd hx (old o hm s x e1)
     ·exact (G.inj i i o o s s' x hi hi e1 e2).2
   ·rcases hs s x e1 with ⟨_,hx⟩ | e1
    ·exact absurd hx (old q (List.mem_of_getElem? g2) s' x e2)
    ·have:=G.inj i b o q s s' x hi g2 e1 e2
     exact ⟨ha.trans this.1,this.2⟩
  ·rcases set_at h2 with ⟨hb,rfl,_⟩ | ⟨hb,g2⟩
   ·rcases hs s' x e2 with ⟨_,hx⟩ | e2
    ·exact absurd hx (old p (List.mem_of_getElem? g1) s x e1)
    ·have:=G.inj a i p o s s' x g1 hi e1 e2
     exact ⟨this.1.trans hb.symm,this.2⟩
   ·exact G.inj a b p q s s' x g1 g2 e1 e2
theorem GoodM.cells {M:MM} (G:GoodM M) {C:CM} (hd:∀ x,C x≠none→M.C x≠none) (hl:∀ o∈M.ones,∀ s x l,cellS o s=some x→M.C x=some (l,false)→∃ l',C x=some (l',false)∧l'.length=l.length):GoodM { M with C:=C }:=by
 refine ⟨G.fine,fun x hx=>G.dom x (hd x hx),G.la0,fun o ho s x e=>?_,G.inj⟩
 obtain ⟨l,h1,h2⟩:=G.live o ho s x e
 obtain ⟨l',h3,h4⟩:=hl o ho s x l e h1
 exact ⟨l',h3,by rw [h4]; exact h2⟩
theorem GoodM.note {M:MM} (G:GoodM M) (e:EvR):GoodM (M.note e):=⟨G.fine,G.dom,G.la0,G.live,G.inj⟩
end Go.Ev
end
section
namespace Go.Ev
open Proofs
set_option maxRecDepth 20000
theorem at_set {M:MM} {id:Int} {o o':OneM} (h:M.at id=some o):(M.setO id o').at id=some o':=by
 obtain ⟨h1,h2⟩:=MM.at_some h
 unfold MM.at MM.setO
 have hl:=(List.getElem?_eq_some_iff.1 h2).1
 show (if 1≤id∧id≤((M.ones.set (idxOf id) o').length:Nat) then (M.ones.set (idxOf id) o')[(id-1).toNat]? else none)=_
 rw [List.length_set,if_pos h1]
 show (M.ones.set (idxOf id) o')[idxOf id]? = _
 rw [List.getElem?_set,if_pos rfl,if_pos hl]
theorem find_len {o:OneM} {k:List Int} {x:Int} (h:findO o k=some x):(k.length:Int)=o.d.key:=by
 unfold findO at h
 split at h
 ·assumption
 ·cases h
theorem good_use {M:MM} (G:GoodM M) {id:Int} {o:OneM} (h:M.at id=some o) (k:List Int):GoodM (M.setO id (useO o k))∧∀ s,cellS (useO o k) s=cellS o s:=by
 have hix:=(MM.at_some h).2
 have hm:=List.mem_of_getElem? hix
 have hR:=(G.fine o hm).2
 have key:RepO (useO o k)∧∀ s,cellS (useO o k) s=cellS o s:=by
  unfold useO
  split
  ·cases hb:o.by_ with
   | lru key most rows=>
    unfold RepO at hR
    rw [hb] at hR
    have H:=findL_inv hR.1 k
    refine ⟨⟨H.1,hR.2⟩,fun s=>?_⟩
    cases s with
    | ix n=>simp only [cellS,hb]
    | ky k'=>
     simp only [cellS,hb]
     cases e:lruGet rows k' with
     | some x=>exact (H.2 k' x).2 e
     | none=>
      cases e2:lruGet (findL rows k) k' with
      | none=>rfl
      | some x=>rw [(H.2 k' x).1 e2] at e; cases e
   | _=>exact ⟨hR,fun s=>rfl⟩
  ·exact ⟨hR,fun s=>rfl⟩
 have hd:(useO o k).d=o.d:=by
  unfold useO
  split
  ·cases o.by_ <;> rfl
  ·rfl
 exact ⟨G.less hix ⟨useO_fine k (G.fine o hm).1,key.1⟩ (by rw [hd]) (fun s x e=>by rw [← key.2 s]; exact e),key.2⟩
theorem good_drop {M:MM} (G:GoodM M) {x:Int} (hx:∀ o∈M.ones,∀ s,cellS o s≠some x):GoodM (M.drop x):=by
 refine G.cells (fun y hy=>?_) fun o ho s y l e h1=>?_
 ·unfold dropF at hy
  cases hC:M.C x with
  | none=>rw [hC] at hy; exact hy
  | some q=>
   obtain ⟨l,d⟩:=q
   rw [hC] at hy
   by_cases hyx:y=x
   ·rw [hyx,hC]; simp
   ·simpa [updG_other hyx] using hy
 ·have hne:y≠x:=by rintro rfl; exact hx o ho s e
  refine ⟨l,?_,rfl⟩
  unfold dropF
  cases hC:M.C x with
  | none=>exact h1
  | some q=>obtain ⟨l',d⟩:=q; simp only; rw [updG_other hne]; exact h1
theorem good_write {M:MM} (G:GoodM M) (x:Int) (b:List Int):GoodM { M with C:=writeF M.C x b }:=by
 refine G.cells (fun y hy=>?_) fun o ho s y l e h1=>?_
 ·unfold writeF at hy
  cases hC:M.C x with
  | none=>rw [hC] at hy; exact hy
  | some q=>
   obtain ⟨l,d⟩:=q
   rw [hC] at hy
   simp only at hy
   split at hy
   ·by_cases hyx:y=x
    ·rw [hyx,hC]; simp
    ·simpa [updG_other hyx] using hy
   ·exact hy
 ·unfold writeF
  cases hC:M.C x with
  | none=>exact ⟨l,h1,rfl⟩
  | some q=>
   obtain ⟨l',d⟩:=q
   simp only
   split
   ·rename_i hl
    by_cases hyx:y=x
    ·subst hyx
     rw [h1] at hC; cases hC
     exact ⟨b,updG_same _ _ _,hl⟩
    ·exact ⟨l,by rw [updG_other hyx]; exact h1,rfl⟩
   ·exact ⟨l,h1,rfl⟩
theorem good_store {M:MM} (G:GoodM M) {x off size:Int} (hi:InC M.C x off size) (v:Int):GoodM { M with C:=storeF M.C x off size v }:=by
 obtain ⟨l0,d0,hC,_,h2,h3⟩:=hi
 refine G.cells (fun y hy=>?_) fun o ho s y l e h1=>?_
 ·unfold storeF at hy
  rw [hC] at hy
  by_cases hyx:y=x
  ·rw [hyx,hC]; simp
  ·simpa [updG_other hyx] using hy
 ·unfold storeF
  rw [hC]
  simp only
  by_cases hyx:y=x
  ·subst hyx
   rw [h1] at hC; cases hC
   exact ⟨_,updG_same _ _ _,splice_length (by simp; omega)⟩
  ·exact ⟨l,by rw [updG_other hyx]; exact h1,rfl⟩
theorem good_sweep {M:MM} (G:GoodM M):GoodM (sweepF M):=by
 refine G.cells (fun y hy=>?_) fun o ho s y l e h1=>⟨l,?_,rfl⟩
 ·unfold delF at hy
  split at hy
  ·exact absurd rfl hy
  ·exact hy
 ·unfold delF
  rw [if_neg]
  ·exact h1
  ·intro hm
   have:=(List.mem_filter.1 hm).2
   unfold dropB at this
   rw [h1] at this
   cases this
theorem good_del {M:MM} (G:GoodM M) {id:Int} {o:OneM} (h:M.at id=some o) {k:List Int} {x:Int} (hf:findO o k=some x) (hb:∀ ids,o.by_≠.arr ids) :
  GoodM ((M.setO id (delO o k)).drop x)∧findO (delO o k) k=none:=by
 have hix:=(MM.at_some h).2
 have hm:=List.mem_of_getElem? hix
 have hR:=(G.fine o hm).2
 have hl:=find_len hf
 have hx:cellS o (.ky k)=some x:=by
  have:=find_slot hf
  unfold slotO at this
  cases hbm:o.by_ with
  | arr ids=>exact absurd hbm (hb ids)
  | _=>rw [hbm] at this; exact this
 have key:RepO (delO o k)∧∀ s y,cellS (delO o k) s=some y→s≠.ky k∧cellS o s=some y:=by
  unfold delO
  cases hbm:o.by_ with
  | hash R=>
   unfold RepO at hR
   rw [hbm] at hR
   have H:=del_inv hR k
   refine ⟨H.1,fun s y e=>?_⟩
   cases s with
   | ix n=>simp only [cellS] at e; cases e
   | ky k'=>
    simp only [cellS] at e
    have:=(H.2 k' y).1 e
    exact ⟨by intro e2; cases e2; exact this.1 rfl,by simp only [cellS,hbm]; exact this.2⟩
  | lru key most rows=>
   unfold RepO at hR
   rw [hbm] at hR
   have H:=delL_inv hR.1 k
   refine ⟨⟨H.1,hR.2⟩,fun s y e=>?_⟩
   cases s with
   | ix n=>simp only [cellS] at e; cases e
   | ky k'=>
    simp only [cellS] at e
    have:=(H.2 k' y).1 e
    exact ⟨by intro e2; cases e2; exact this.1 rfl,by simp only [cellS,hbm]; exact this.2⟩
  | progs l=>unfold cellS at hx; rw [hbm] at hx; cases hx
  | arr ids=>exact absurd hbm (hb ids)
 have hd:(delO o k).d=o.d:=by unfold delO; cases o.by_ <;> rfl
 have G1:GoodM (M.setO id (delO o k)):=G.less hix ⟨delO_fine k (G.fine o hm).1,key.1⟩ (by rw [hd]) fun s y e=>(key.2 s y e).2
 refine ⟨good_drop G1 fun p hp s e=>?_,?_⟩
 ·obtain ⟨j,hj⟩:=List.mem_iff_getElem?.1 hp
  rcases set_at hj with ⟨_,rfl,_⟩ | ⟨hne,hj⟩
  ·obtain ⟨h1,h2⟩:=key.2 s x e
   exact h1 (G.inj _ _ _ _ _ _ _ hix hix h2 hx).2
  ·exact hne (G.inj _ _ _ _ _ _ _ hj hix e hx).1
 ·cases e:findO (delO o k) k with
  | none=>rfl
  | some y=>
   have h1:=find_slot e
   have h2:slotO (delO o k) k=.ky k:=by
    unfold slotO delO
    cases hbm:o.by_ with
    | arr ids=>exact absurd hbm (hb ids)
    | _=>simp_all
   rw [h2] at h1
   exact absurd rfl (key.2 _ _ h1).1
theorem good_lay {M:MM} (G:GoodM M) {id:Int} {o:OneM} (h:M.at id=some o) {k v:List Int} (hk:(k.length:Int)=o.d.key) (hkB:Byt k) (hv:(v.length:Int)=o.d.val) (hno:findO o k=none) (hfull:∀ R,o.by_=.hash R→R.n≠o.d.mx) (hb:∀ ids,o.by_≠.arr ids) (hp:∀ l,o.by_≠.progs l) :
  GoodM (layF M id k v)∧(∃ o',(layF M id k v).at id=some o'∧findO o' k=some (M.last+1))∧(layF M id k v).C (M.last+1)=some (v,false):=by
 have hix:=(MM.at_some h).2
 have hm:=List.mem_of_getElem? hix
 have hR:=(G.fine o hm).2
 have hF:=(G.fine o hm).1
 have hf:=hF.by_
 have la:=G.la0
 cases hbm:o.by_ with
 | progs l=>exact absurd hbm (hp l)
 | arr ids=>exact absurd hbm (hb ids)
 | hash R=>
  unfold RepO at hR
  rw [hbm] at hR hf
  have hkR:k.length=R.key:=by have:=hf.2.1; omega
  have hpl:placeF R k=none:=by
   unfold findO at hno
   rw [if_pos hk,hbm] at hno
   unfold findH at hno
   cases e:placeF R k with
   | none=>rfl
   | some p=>simp [e] at hno
  have hnm:R.n≠R.mx:=by rw [hf.2.2.1]; exact hfull R hbm
  have P:=put_inv hR hkR hkB hpl hnm (M.last+1)
  have pf:=putF_fine (cell:=M.last+1) hR.fine hkB (k:=k)
  have eL:layF M id k v=((M.make v).setO id { o with by_:=.hash (putF R k (M.last+1)) }).note ⟨1,id,0,0,k⟩:=by simp only [layF,h,hbm]
  rw [eL]
  have G1:=G.more (s0:=.ky k) (v:=v) (o':={ o with by_:=.hash (putF R k (M.last+1)) }) hix ⟨⟨hF.may,hf.1,by rw [pf.2.1]; exact hf.2.1,by rw [pf.2.2]; exact hf.2.2.1,pf.1⟩,P.1⟩ rfl hv (fun s x e=>by
   cases s with
   | ix n=>simp only [cellS] at e; cases e
   | ky k'=>
    simp only [cellS] at e
    rcases (P.2 k' x).1 e with ⟨rfl,rfl⟩ | ⟨_,e⟩
    ·exact .inl ⟨rfl,rfl⟩
    ·exact .inr (by simp only [cellS,hbm]; exact e))
  refine ⟨G1.note _,⟨{ o with by_:=.hash (putF R k (M.last+1)) },at_set (M:=M.make v) (o:=o) h,?_⟩,updG_same _ _ _⟩
  unfold findO
  rw [if_pos hk]
  exact (P.2 k (M.last+1)).2 (.inl ⟨rfl,rfl⟩)
 | lru key most rows=>
  unfold RepO at hR
  rw [hbm] at hR hf
  have hkR:k.length=key:=by have:=hf.2.1; omega
  have hpl:idxL rows k=none:=by
   unfold findO at hno
   rw [if_pos hk,hbm] at hno
   cases e:idxL rows k with
   | none=>rfl
   | some p=>simp [e] at hno
  have P:=putL_inv hR.1 hR.2.1 hkR hpl (M.last+1)
  have k16:k.length≤16:=by have:=hF.may.2.1; omega
  obtain ⟨o',ho'⟩:∃ o':OneM,o'={ o with by_:=.lru key most (putL most rows k (M.last+1)) }:=⟨_,rfl⟩
  have hs:∀ s x,cellS o' s=some x→(s=.ky k∧x=M.last+1)∨(cellS o s=some x∧(rows.length=most→s≠.ky (goneL most rows).1)):=fun s x e=>by
   rw [ho'] at e
   cases s with
   | ix n=>simp only [cellS] at e; cases e
   | ky k'=>
    simp only [cellS] at e
    rcases (P.2 k' x).1 e with ⟨rfl,rfl⟩ | ⟨_,e,h2⟩
    ·exact .inl ⟨rfl,rfl⟩
    ·exact .inr ⟨by simp only [cellS,hbm]; exact e,fun hl e2=>by cases e2; exact h2 hl rfl⟩
  have fo':findO o' k=some (M.last+1):=by
   rw [ho']
   unfold findO
   rw [if_pos hk]
   exact (P.2 k (M.last+1)).2 (.inl ⟨rfl,rfl⟩)
  have G1:GoodM ((M.make v).setO id o'):=G.more (s0:=.ky k) (v:=v) (o':=o') hix ⟨by rw [ho']; exact ⟨hF.may,hf.1,hf.2.1,hf.2.2.1,fun r hr=>by
    rcases putL_mem hr with rfl | hr
    ·exact ⟨hkB,k16⟩
    ·exact hf.2.2.2 r hr⟩,by rw [ho']; exact ⟨P.1,hR.2⟩⟩ (by rw [ho']) hv (fun s x e=>(hs s x e).imp (fun h=>h) fun h=>h.1)
  by_cases hx:0<(goneL most rows).2
  ·have eL:layF M id k v=((((M.make v).setO id o').drop (goneL most rows).2).note ⟨1,id,0,0,(goneL most rows).1⟩).note ⟨1,id,0,0,k⟩:=by simp only [layF,h,hbm]; rw [if_pos ⟨hkR,hpl⟩,if_pos hx,ho']
   rw [eL]
   have hlm:rows.length=most:=by
    by_cases hl:rows.length=most
    ·exact hl
    ·unfold goneL at hx; rw [if_neg hl] at hx; exact absurd hx (by decide)
   have hgm:goneL most rows∈rows:=by
    have:goneL most rows=rows.getD (most-1) ([],0):=if_pos hlm
    rw [this,List.getD_eq_getElem?_getD,List.getElem?_eq_getElem (show most-1<rows.length by have:=hR.2.1; omega)]; exact List.getElem_mem _
   have hg:cellS o (.ky (goneL most rows).1)=some (goneL most rows).2:=by
    simp only [cellS,hbm]
    exact (lruGet_iff hR.1.nd).2 hgm
   obtain ⟨l,hlive,_⟩:=G.live o hm _ _ hg
   have hdom:=G.dom _ (by rw [hlive]; simp)
   have G2:=good_drop G1 (x:=(goneL most rows).2) fun p hp s e=>by
    obtain ⟨j,hj⟩:=List.mem_iff_getElem?.1 hp
    rcases set_at hj with ⟨_,rfl,_⟩ | ⟨hne,hj⟩
    ·rcases hs s _ e with ⟨_,h2⟩ | ⟨h2,h3⟩
     ·omega
     ·exact h3 hlm (G.inj _ _ _ _ _ _ _ hix hix h2 hg).2
    ·exact hne (G.inj _ _ _ _ _ _ _ hj hix e hg).1
   refine ⟨(G2.note _).note _,⟨o',at_set (M:=M.make v) (o:=o) h,fo'⟩,?_⟩
   show dropF (updG M.C (M.last+1) (some (v,false))) (goneL most rows).2 (M.last+1)=_
   have h5:updG M.C (M.last+1) (some (v,false)) (goneL most rows).2=some (l,false):=by rw [updG_other (by omega)]; exact hlive
   unfold dropF
   rw [h5]
   simp only
   rw [updG_other (by omega)]; exact updG_same _ _ _
  ·have eL:layF M id k v=((M.make v).setO id o').note ⟨1,id,0,0,k⟩:=by simp only [layF,h,hbm]; rw [if_pos ⟨hkR,hpl⟩,if_neg hx,ho']
   rw [eL]
   exact ⟨G1.note _,⟨o',at_set (M:=M.make v) (o:=o) h,fo'⟩,updG_same _ _ _⟩
end Go.Ev
end
section
namespace Go.Ev
open Proofs
set_option maxRecDepth 20000
def GrowB (M M':MM):Prop:=M.last≤M'.last∧M'.last≤M.last+64∧M'.ev.length≤M.ev.length+2
theorem lay_grow (M:MM) (id:Int) (k v:List Int):GrowB M (layF M id k v):=by
 unfold layF
 cases M.at id with
 | none=>exact ⟨Int.le_refl _,by show M.last≤_; omega,by show M.ev.length≤_; omega⟩
 | some o=>
  simp only
  cases o.by_ with
  | hash R=>exact ⟨by show M.last≤M.last+1; omega,by show M.last+1≤_; omega,by show (M.ev++[_]).length≤_; simp⟩
  | lru key most rows=>
   simp only
   split
   ·split
    ·exact ⟨by show M.last≤M.last+1; omega,by show M.last+1≤_; omega,by show ((M.ev++[_])++[_]).length≤_; simp⟩
    ·exact ⟨by show M.last≤M.last+1; omega,by show M.last+1≤_; omega,by show (M.ev++[_]).length≤_; simp⟩
   ·exact ⟨by show M.last≤M.last+1; omega,by show M.last+1≤_; omega,by show (M.ev++[_]).length≤_; simp⟩
  | _=>exact ⟨Int.le_refl _,by show M.last≤_; omega,by show (M.ev++[_]).length≤_; simp⟩
def UpdP (M M':MM) (id:Int) (k v:List Int):Prop:=∃ o' cell,M'.at id=some o'∧findO o' k=some cell∧M'.C cell=some (v,false)∧∀ o was,M.at id=some o→findO o k=some was→was=cell
theorem good_update {M:MM} (G:GoodM M) (id:Int) {k:List Int} (hkB:Byt k) (v:List Int):GoodM (updateF M id k v).1∧GrowB M (updateF M id k v).1∧((updateF M id k v).2=0→UpdP M (updateF M id k v).1 id k v):=by
 have triv:∀ e:Int,e≠0→updateF M id k v=(M,e)→GoodM (updateF M id k v).1∧GrowB M (updateF M id k v).1∧((updateF M id k v).2=0→UpdP M (updateF M id k v).1 id k v):=fun e he h=>by
  rw [h]; exact ⟨G,⟨Int.le_refl _,by show M.last≤_; omega,by show M.ev.length≤_; omega⟩,fun h=>absurd h he⟩
 cases h:M.at id with
 | none=>exact triv 10 (by decide) (by simp only [updateF,h])
 | some o=>
  have hix:=(MM.at_some h).2
  have hm:=List.mem_of_getElem? hix
  by_cases hl:(k.length:Int)=o.d.key∧(v.length:Int)=o.d.val
  ·have lays:(∀ R,o.by_=.hash R→R.n≠o.d.mx)→(∀ ids,o.by_≠.arr ids)→(∀ l,o.by_≠.progs l)→findO o k=none→updateF M id k v=(layF M id k v,0)→GoodM (updateF M id k v).1∧GrowB M (updateF M id k v).1∧((updateF M id k v).2=0→UpdP M (updateF M id k v).1 id k v):=fun h1 h2 h3 hno e=>by
    rw [e]
    obtain ⟨g1,⟨o',g2,g3⟩,g4⟩:=good_lay G h hl.1 hkB hl.2 hno h1 h2 h3
    exact ⟨g1,lay_grow M id k v,fun _=>⟨o',_,g2,g3,g4,fun p was hp hw=>by rw [h] at hp; cases hp; rw [hno] at hw; cases hw⟩⟩
   cases hf:findO o k with
   | some cell=>
    have GU:=good_use G h k
    have e:∀ (hb:∀ l,o.by_≠.progs l),updateF M id k v=(({ M.setO id (useO o k) with C:=writeF M.C cell v }:MM).note ⟨2,0,0,cell,[]⟩,0):=fun hb=>by
     cases hbm:o.by_ with
     | progs l=>exact absurd hbm (hb l)
     | _=>simp only [updateF,h,hbm,hf]; rw [if_pos hl]
    have hb:∀ l,o.by_≠.progs l:=fun l hb=>by unfold findO at hf; rw [if_pos hl.1,hb] at hf; cases hf
    rw [e hb]
    have hcs:=find_slot hf
    obtain ⟨l,hlive,hlen⟩:=G.live o hm _ _ hcs
    refine ⟨(good_write GU.1 cell v).note _,⟨Int.le_refl _,by show M.last≤_; omega,by show (M.ev++[_]).length≤_; simp⟩,fun _=>⟨useO o k,cell,at_set h,?_,?_,fun p was hp hw=>by rw [h] at hp; cases hp; rw [hf] at hw; cases hw; rfl⟩⟩
    ·have hd:(useO o k).d=o.d:=by
      unfold useO
      split
      ·cases o.by_ <;> rfl
      ·rfl
     have hs:slotO (useO o k) k=slotO o k:=by
      unfold useO
      split
      ·cases hbm:o.by_ <;> simp [slotO,hbm]
      ·rfl
     have h5:=GU.2 (slotO o k)
     rw [hcs] at h5
     unfold findO at hf ⊢
     rw [hd,if_pos hl.1]
     unfold useO at h5 ⊢
     rw [if_pos hl.1] at hf h5 ⊢
     cases hbm:o.by_ with
     | lru key most rows=>
      simp only [cellS,slotO,hbm] at h5
      exact h5
     | _=>simp only [hbm] at hf ⊢; exact hf
    ·show writeF M.C cell v cell=_
     unfold writeF
     rw [hlive]
     simp only
     rw [if_pos (by omega),updG_same]
   | none=>
    cases hbm:o.by_ with
    | progs l=>exact triv 13 (by decide) (by simp only [updateF,h,hbm])
    | arr ids=>exact triv 15 (by decide) (by simp only [updateF,h,hbm,hf]; rw [if_pos hl])
    | hash R=>
     by_cases hn:R.n=o.d.mx
     ·exact triv 12 (by decide) (by simp only [updateF,h,hbm,hf]; rw [if_pos hl,if_pos hn])
     ·exact lays (fun R' e=>by rw [hbm] at e; cases e; exact hn) (fun ids e=>by rw [hbm] at e; cases e) (fun l e=>by rw [hbm] at e; cases e) hf (by simp only [updateF,h,hbm,hf]; rw [if_pos hl,if_neg hn])
    | lru key most rows=>exact lays (fun R' e=>by rw [hbm] at e; cases e) (fun ids e=>by rw [hbm] at e; cases e) (fun l e=>by rw [hbm] at e; cases e) hf (by simp only [updateF,h,hbm,hf]; rw [if_pos hl])
  ·cases hbm:o.by_ with
   | progs l=>exact triv 13 (by decide) (by simp only [updateF,h,hbm])
   | _=>exact triv 14 (by decide) (by simp only [updateF,h,hbm]; rw [if_neg hl])
def DelP (M M':MM) (id:Int) (k:List Int):Prop:=(∃ o was,M.at id=some o∧findO o k=some was)∧∃ o',M'.at id=some o'∧findO o' k=none
theorem good_delete {M:MM} (G:GoodM M) (id:Int) (k:List Int):GoodM (deleteF M id k).1∧GrowB M (deleteF M id k).1∧((deleteF M id k).2=0→DelP M (deleteF M id k).1 id k):=by
 have triv:∀ e:Int,e≠0→deleteF M id k=(M,e)→GoodM (deleteF M id k).1∧GrowB M (deleteF M id k).1∧((deleteF M id k).2=0→DelP M (deleteF M id k).1 id k):=fun e he h=>by
  rw [h]; exact ⟨G,⟨Int.le_refl _,by show M.last≤_; omega,by show M.ev.length≤_; omega⟩,fun h=>absurd h he⟩
 cases h:M.at id with
 | none=>exact triv 10 (by decide) (by simp only [deleteF,h])
 | some o=>
  by_cases hk:(k.length:Int)=o.d.key
  ·cases hf:findO o k with
   | none=>
    cases hbm:o.by_ with
    | progs l=>exact triv 13 (by decide) (by simp only [deleteF,h,hbm])
    | arr l=>exact triv 13 (by decide) (by simp only [deleteF,h,hbm])
    | _=>exact triv 10 (by decide) (by simp only [deleteF,h,hbm,hf]; rw [if_pos hk])
   | some cell=>
    have go:(∀ ids,o.by_≠.arr ids)→deleteF M id k=(((M.setO id (delO o k)).drop cell).note ⟨1,id,0,0,k⟩,0)→GoodM (deleteF M id k).1∧GrowB M (deleteF M id k).1∧((deleteF M id k).2=0→DelP M (deleteF M id k).1 id k):=fun hb e=>by
     rw [e]
     obtain ⟨g1,g2⟩:=good_del G h hf hb
     exact ⟨g1.note _,⟨Int.le_refl _,by show M.last≤_; omega,by show (M.ev++[_]).length≤_; simp⟩,fun _=>⟨⟨o,cell,h,hf⟩,delO o k,at_set h,g2⟩⟩
    cases hbm:o.by_ with
    | progs l=>exact triv 13 (by decide) (by simp only [deleteF,h,hbm])
    | arr l=>exact triv 13 (by decide) (by simp only [deleteF,h,hbm])
    | _=>exact go (fun ids e=>by rw [hbm] at e; cases e) (by simp only [deleteF,h,hbm,hf]; rw [if_pos hk])
  ·cases hbm:o.by_ with
   | progs l=>exact triv 13 (by decide) (by simp only [deleteF,h,hbm])
   | arr l=>exact triv 13 (by decide) (by simp only [deleteF,h,hbm])
   | _=>exact triv 14 (by decide) (by simp only [deleteF,h,hbm]; rw [if_neg hk])
theorem good_setProg {M:MM} (G:GoodM M) (id idx prog:Int):GoodM (setProgF M id idx prog).1∧GrowB M (setProgF M id idx prog).1:=by
 have triv:GoodM M∧GrowB M M:=⟨G,Int.le_refl _,by omega,by omega⟩
 unfold setProgF
 cases h:M.at id with
 | none=>exact triv
 | some o=>
  have hix:=(MM.at_some h).2
  have hm:=List.mem_of_getElem? hix
  have hF:=(G.fine o hm).1
  have hf:=hF.by_
  simp only
  cases hbm:o.by_ with
  | progs l=>
   rw [hbm] at hf
   simp only
   split
   ·split
    ·exact triv
    ·rename_i hidx _
     have hsl:(splice l idx.toNat [prog]).length=l.length:=splice_length (by have:=hf.2; simp; omega)
     refine ⟨(G.less (o':={ o with by_:=.progs (splice l idx.toNat [prog]) }) hix ⟨⟨hF.may,hf.1,by rw [hsl]; exact hf.2⟩,trivial⟩ rfl fun s x e=>?_).note _,Int.le_refl _,by show M.last≤_; omega,by show (M.ev++[_]).length≤_; simp⟩
     cases s <;> simp only [cellS] at e <;> cases e
   ·exact triv
  | _=>exact triv
theorem ids_at {la:Int} {m n:Nat} {x:Int} (h:(idsF la m m)[n]? = some x):n<m∧x=la+(n:Int)+1:=by
 have hl:=(List.getElem?_eq_some_iff.1 h).1
 have hn:n<m:=by simpa using hl
 simp only [idsF,List.getElem?_map,List.getElem?_range hn,Option.map_some,if_pos hn] at h
 cases h; exact ⟨hn,rfl⟩
theorem good_push {M:MM} (G:GoodM M) {o:OneM} (hF:o.Fine∧RepO o) {C:CM} {last:Int} (hl:M.last≤last) (hC:∀ x,x≤M.last→C x=M.C x) (hd:∀ x,C x≠none→1≤x∧x≤last)
  (hs:∀ s x,cellS o s=some x→M.last<x∧∃ l,C x=some (l,false)∧(l.length:Int)=o.d.val) (hi:∀ s s' x,cellS o s=some x→cellS o s'=some x→s=s'):GoodM { M with C:=C,last:=last,ones:=M.ones++[o] }:=by
 have la:=G.la0
 have old:∀ p∈M.ones,∀ s x,cellS p s=some x→x≤M.last:=fun p hp s x e=>by
  obtain ⟨l,h1,_⟩:=G.live p hp s x e
  exact (G.dom x (by rw [h1]; simp)).2
 have at_:∀ {i:Nat} {p:OneM},(M.ones++[o])[i]? = some p→M.ones[i]? = some p∨(i=M.ones.length∧p=o):=fun {i p} h=>by
  by_cases hi:i<M.ones.length
  ·rw [List.getElem?_append_left hi] at h; exact .inl h
  ·rw [List.getElem?_append_right (by omega)] at h
   have:i-M.ones.length=0:=by
    have:=(List.getElem?_eq_some_iff.1 h).1
    simpa using this
   rw [this] at h
   simp at h
   exact .inr ⟨by omega,h.symm⟩
 refine ⟨fun p hp=>?_,hd,by show 0≤last; omega,fun p hp s x e=>?_,fun i j p q s s' x h1 h2 e1 e2=>?_⟩
 ·rcases List.mem_append.1 hp with h | h
  ·exact G.fine p h
  ·rw [List.mem_singleton.1 h]; exact hF
 ·rcases List.mem_append.1 hp with h | h
  ·rw [show ({ M with C:=C,last:=last,ones:=M.ones++[o] }:MM).C x=C x from rfl,hC x (old p h s x e)]; exact G.live p h s x e
  ·rw [List.mem_singleton.1 h] at e ⊢; exact (hs s x e).2
 ·rcases at_ h1 with g1 | ⟨g1,rfl⟩
  ·rcases at_ h2 with g2 | ⟨g2,rfl⟩
   ·exact G.inj i j p q s s' x g1 g2 e1 e2
   ·have h3:=old p (List.mem_of_getElem? g1) s x e1
    have h4:=(hs s' x e2).1
    omega
  ·rcases at_ h2 with g2 | ⟨g2,rfl⟩
   ·have h3:=old q (List.mem_of_getElem? g2) s' x e2
    have h4:=(hs s x e1).1
    omega
   ·exact ⟨g1.trans g2.symm,hi s s' x e1 e2⟩
theorem good_create {M:MM} (G:GoodM M) (d:DeclR):GoodM (createF M d).1∧GrowB M (createF M d).1:=by
 have triv:GoodM M∧GrowB M M:=⟨G,Int.le_refl _,by omega,by omega⟩
 have la:=G.la0
 unfold createF
 split
 ·exact triv
 ·split
  ·exact triv
  ·rename_i hk
   split
   ·exact triv
   ·rename_i hm
    have hm:MayR d.kind d.key d.val d.mx:=Classical.not_not.1 hm
    have hk:1≤d.kind∧d.kind≤4:=Classical.not_not.1 hk
    obtain ⟨k1,k2,k3,k4,k5,k6,k7,k8⟩:=hm
    have hm:MayR d.kind d.key d.val d.mx:=⟨k1,k2,k3,k4,k5,k6,k7,k8⟩
    simp only
    unfold mkO MM.push
    by_cases c1:d.kind=1
    ·rw [if_pos c1]
     refine ⟨good_push G (o:=⟨d,.arr (idsF M.last d.mx.toNat d.mx.toNat)⟩) (C:=mkF M.C M.last d.val.toNat d.mx.toNat) (last:=M.last+d.mx) ⟨⟨hm,c1,by simp; omega⟩,trivial⟩ (by omega) (fun x hx=>?_) (fun x hx=>?_) (fun s x e=>?_) (fun s s' x e e'=>?_),by show M.last≤M.last+d.mx; omega,by show M.last+d.mx≤_; omega,by show M.ev.length≤_; omega⟩
     ·unfold mkF; rw [if_neg (by omega)]
     ·unfold mkF at hx
      split at hx
      ·omega
      ·have:=G.dom x hx; omega
     ·cases s with
      | ky k=>simp only [cellS] at e; cases e
      | ix n=>
       simp only [cellS] at e
       obtain ⟨h1,rfl⟩:=ids_at e
       refine ⟨by omega,_,by unfold mkF; rw [if_pos (by omega)],by simp; omega⟩
     ·cases s with
      | ky k=>simp only [cellS] at e; cases e
      | ix n=>
       cases s' with
       | ky k=>simp only [cellS] at e'; cases e'
       | ix n'=>
        simp only [cellS] at e e'
        have h1:=(ids_at e).2
        have h2:=(ids_at e').2
        congr 1; omega
    ·rw [if_neg c1]
     have other:∀ o:OneM,o.Fine∧RepO o→(∀ s,cellS o s=none)→GoodM { M with ones:=M.ones++[o] }:=fun o hF hs=>
      good_push G hF (C:=M.C) (last:=M.last) (Int.le_refl _) (fun _ _=>rfl) G.dom (fun s x e=>by rw [hs] at e; cases e) (fun s s' x e=>by rw [hs] at e; cases e)
     have gr:∀ o:OneM,GrowB M { M with ones:=M.ones++[o] }:=fun o=>⟨Int.le_refl _,by show M.last≤_; omega,by show M.ev.length≤_; omega⟩
     by_cases c2:d.kind=2
     ·rw [if_pos c2]
      have N:=new_inv (key:=d.key.toNat) (mx:=d.mx.toNat) (by omega) (by omega) (by omega) (by omega)
      exact ⟨other ⟨d,.hash (newH d.key.toNat d.mx.toNat)⟩ ⟨⟨hm,c2,by show ((d.key.toNat:Nat):Int)=d.key; omega,by show ((d.mx.toNat:Nat):Int)=d.mx; omega,N.1.fine⟩,N.1⟩ (fun s=>by
       cases s with
       | ix n=>rfl
       | ky k=>exact N.2 k),gr _⟩
     ·rw [if_neg c2]
      by_cases c3:d.kind=3
      ·rw [if_pos c3]
       exact ⟨other ⟨d,.lru d.key.toNat d.mx.toNat []⟩ ⟨⟨hm,c3,by show ((d.key.toNat:Nat):Int)=d.key; omega,by show ((d.mx.toNat:Nat):Int)=d.mx; omega,by simp⟩,⟨by simp,by simp,by simp⟩,by omega,by omega⟩ (fun s=>by cases s <;> rfl),gr _⟩
      ·rw [if_neg c3]
       exact ⟨other ⟨d,.progs (List.replicate d.mx.toNat 0)⟩ ⟨⟨hm,by show d.kind=4; omega,by simp; omega⟩,trivial⟩ (fun s=>by cases s <;> rfl),gr _⟩
theorem good_do {M:MM} (G:GoodM M) (o:OpR) (hkB:Byt o.key):GoodM (doF M o).1∧GrowB M (doF M o).1:=by
 have triv:GoodM M∧GrowB M M:=⟨G,Int.le_refl _,by omega,by omega⟩
 unfold doF
 split
 ·exact good_create G o.d
 split
 ·cases h:M.at o.id with
  | none=>exact triv
  | some x=>exact ⟨(good_use G h o.key).1,Int.le_refl _,by show M.last≤_; omega,by show M.ev.length≤_; omega⟩
 split
 ·exact triv
 split
 ·have:=good_update G o.id hkB o.data; exact ⟨this.1,this.2.1⟩
 split
 ·have:=good_delete G o.id o.key; exact ⟨this.1,this.2.1⟩
 split
 ·exact good_setProg G _ _ _
 split
 ·simp only
  split
  ·rename_i hi
   exact ⟨(good_store G hi _).note _,Int.le_refl _,by show M.last≤_; omega,by show (M.ev++[_]).length≤_; simp⟩
  ·exact triv
 split
 ·exact ⟨⟨G.fine,G.dom,G.la0,G.live,G.inj⟩,Int.le_refl _,by show M.last≤_; omega,by show M.ev.length≤_; omega⟩
 split
 ·exact ⟨good_sweep G,Int.le_refl _,by show M.last≤_; omega,by show M.ev.length≤_; omega⟩
 exact triv
end Go.Ev
end
section
namespace Go.Ev
open Proofs
set_option maxRecDepth 20000
def risesF:List Int→List Int→Bool
 | x::a,y::b=>if x=y then risesF a b else decide (x<y)
 | _,_=>false
theorem rises_lt:∀ {a b:List Int},a.length=b.length→a<b→risesF a b=true
 | [],[],_,h=>by simp at h
 | [],_::_,h,_=>by simp at h
 | _::_,[],h,_=>by simp at h
 | x::a,y::b,hl,h=>by
  unfold risesF
  rcases List.cons_lt_cons_iff.1 h with h | ⟨h1,h2⟩
  ·rw [if_neg (by omega)]; exact decide_eq_true h
  ·rw [if_pos h1]; exact rises_lt (by simpa using hl) h2
theorem fours_rise:(List.range 64).all (fun (i:Nat)=>risesF (fourF (i:Int)) (fourF ((i:Int)+1)))=true:=by kernel_rfl
theorem fours_num:(List.range 65).all (fun (i:Nat)=>decide (numF (fourF (i:Int))=(i:Int)))=true:=by kernel_rfl
structure KeysOk (o:OneM):Prop where
 tells:o.Tells
 few:((keysO o).length:Int)≤o.d.mx
 rise:∀ i (h:i+1<(keysO o).length),risesF ((keysO o)[i]'(by omega)) ((keysO o)[i+1]'h)=true
 there:(∀ l,o.by_≠.progs l)→∀ k∈keysO o,∃ x,findO o k=some x
theorem sorted_rise {ks:List (List Int)} (nd:ks.Nodup) {n:Nat} (hl:∀ k∈ks,k.length=n):∀ i (h:i+1<(sortK ks).length),risesF ((sortK ks)[i]'(by omega)) ((sortK ks)[i+1]'h)=true:=by
 intro i h
 have hp:=sortK_perm ks
 have hs:=List.pairwise_iff_getElem.1 (sortK_rises ks) i (i+1) (by omega) h (by omega)
 have hnd:(sortK ks).Nodup:=hp.nodup_iff.2 nd
 have hne:(sortK ks)[i]'(by omega)≠(sortK ks)[i+1]'h:=fun e=>by
  have:=(List.getElem?_inj (show i<(sortK ks).length by omega) hnd (j:=i+1)).1 (by rw [List.getElem?_eq_getElem (by omega),List.getElem?_eq_getElem h,e])
  omega
 refine rises_lt ?_ ?_
 ·rw [hl _ (hp.mem_iff.1 (List.getElem_mem _)),hl _ (hp.mem_iff.1 (List.getElem_mem _))]
 ·exact Classical.byContradiction fun hn=>hne (leI_antisymm hs (notI.1 hn))
theorem fourF_len (n:Int):(fourF n).length=4:=rfl
theorem fours_ok {m:Nat} (hm:m≤64):(∀ k∈foursF m,Byt k∧k.length≤16)∧(∀ i (h:i+1<(foursF m).length),risesF ((foursF m)[i]'(by omega)) ((foursF m)[i+1]'h)=true)∧∀ k∈foursF m,∃ i:Nat,i<m∧k=fourF (i:Int)∧numF k=(i:Int):=by
 refine ⟨fun k hk=>?_,fun i h=>?_,fun k hk=>?_⟩
 ·obtain ⟨i,_,rfl⟩:=List.mem_map.1 hk
  exact ⟨fourF_byt _,by rw [fourF_len]; omega⟩
 ·simp at h
  have:=List.all_eq_true.1 fours_rise i (by simp; omega)
  simp only [foursF,List.getElem_map,List.getElem_range]
  have e:((i+1:Nat):Int)=(i:Int)+1:=by omega
  rw [e]; exact this
 ·obtain ⟨i,hi,rfl⟩:=List.mem_map.1 hk
  have hi:=List.mem_range.1 hi
  have:=List.all_eq_true.1 fours_num i (by simp; omega)
  exact ⟨i,hi,rfl,of_decide_eq_true this⟩
theorem keys_good {o:OneM} (hF:o.Fine) (hR:RepO o):KeysOk o:=by
 have hf:=hF.by_
 obtain ⟨k1,k2,k3,k4,k5,k6,k7,k8⟩:=hF.may
 unfold RepO at hR
 have four:keysO o=foursF o.d.mx.toNat→(∀ (h:∀ l,o.by_≠.progs l),∀ i:Nat,i<o.d.mx.toNat→∃ x,findO o (fourF (i:Int))=some x)→KeysOk o:=fun e ht=>by
  obtain ⟨f1,f2,f3⟩:=fours_ok (m:=o.d.mx.toNat) (by omega)
  refine ⟨⟨by rw [e]; simp; omega,by rw [e]; exact f1⟩,by rw [e]; simp; omega,?_,fun hp k hk=>?_⟩
  ·simp only [e]; exact f2
  ·rw [e] at hk
   obtain ⟨i,hi,rfl,_⟩:=f3 k hk
   exact ht hp i hi
 cases hbm:o.by_ with
 | progs l=>exact four (by unfold keysO; rw [hbm]) fun h=>absurd hbm (h l)
 | arr ids=>
  rw [hbm] at hf
  refine four (by unfold keysO; rw [hbm]) fun _ i hi=>?_
  have h4:o.d.key=4:=k7 (.inl hf.1)
  have hn:numF (fourF (i:Int))=(i:Int):=of_decide_eq_true (List.all_eq_true.1 fours_num i (by simp; omega))
  have hil:i<ids.length:=by have:=hf.2; omega
  unfold findO
  rw [if_pos (by rw [fourF_len]; omega),hbm]
  simp only [arrF,hn]
  rw [if_neg (by omega)]
  exact ⟨ids[i],by simp [hil]⟩
 | hash R=>
  rw [hbm] at hR hf
  have eK:keysO o=sortK (keysH R R.st.length):=by unfold keysO; rw [hbm]
  have hp:=sortK_perm (keysH R R.st.length)
  have hlen:∀ k∈keysH R R.st.length,k.length=R.key:=fun k hk=>by
   obtain ⟨p,h1,rfl⟩:=keysH_iff.1 hk
   exact keyAt_len hR.fine h1.1
  have hn:=hR.n0
  have hnm:=hR.nm
  refine ⟨⟨by rw [eK,hp.length_eq]; have:=hR.m64; omega,fun k hk=>?_⟩,by rw [eK,hp.length_eq,← hn,← hf.2.2.1]; exact hnm,?_,fun _ k hk=>?_⟩
  ·rw [eK] at hk
   obtain ⟨p,h1,rfl⟩:=keysH_iff.1 (hp.mem_iff.1 hk)
   exact ⟨keyAt_byt hR.fine p,by rw [keyAt_len hR.fine h1.1]; exact hR.fine.k2⟩
  ·simp only [eK]; exact sorted_rise (keysH_nodup hR) hlen
  ·rw [eK] at hk
   have hk:=hp.mem_iff.1 hk
   obtain ⟨p,h1,h2⟩:=keysH_iff.1 hk
   refine ⟨R.cs.getD p 0,?_⟩
   unfold findO
   rw [if_pos (by rw [hlen k hk]; exact hf.2.1),hbm]
   exact (findH_iff hR).2 ⟨p,h1,h2,rfl⟩
 | lru key most rows=>
  rw [hbm] at hR hf
  have eK:keysO o=sortK (keysL rows):=by unfold keysO; rw [hbm]
  have hp:=sortK_perm (keysL rows)
  have hlen:∀ k∈keysL rows,k.length=key:=fun k hk=>by
   obtain ⟨r,h1,rfl⟩:=List.mem_map.1 hk
   exact hR.1.kl r h1
  have hll:(keysL rows).length=rows.length:=by simp [keysL]
  have hlm:=hR.1.lm
  refine ⟨⟨by rw [eK,hp.length_eq,hll]; omega,fun k hk=>?_⟩,by rw [eK,hp.length_eq,hll,← hf.2.2.1]; omega,?_,fun _ k hk=>?_⟩
  ·rw [eK] at hk
   obtain ⟨r,h1,rfl⟩:=List.mem_map.1 (hp.mem_iff.1 hk)
   exact hf.2.2.2 r h1
  ·simp only [eK]; exact sorted_rise hR.1.nd hlen
  ·rw [eK] at hk
   have hk:=hp.mem_iff.1 hk
   obtain ⟨⟨k',x⟩,h1,h2⟩:=List.mem_map.1 hk
   have h2':k'=k:=h2
   subst h2'
   refine ⟨x,?_⟩
   unfold findO
   rw [if_pos (by rw [hlen _ hk]; exact hf.2.1),hbm]
   exact (lruGet_iff hR.1.nd).2 h1
end Go.Ev
end
section
namespace Go.Ev
open Proofs
set_option maxRecDepth 20000
def OpsArg (h:Heap) (n0:Nat) (mv:V) (N:Nat):Prop:=(∀ h',lenV CC h' 22 mv=some (.s (.int .i64 (N:Nat))))∧(normV mv=mv∧V.cells mv=some (.one mv)) ∧
 ∀ i,i<N→∃ (p off:Nat) (A:List V) (es:Nat) (kind id M prog cell size w dk dkey dval dmax:Int) (kv dv:V) (kl dl:List Int) (kb db:Nat),p<n0∧indexAddr CC 22 mv (.s (.int .i64 (i:Nat)))=some (.ptr p off)∧cellsAt h p=some (.lst A,es)∧off+13≤A.length ∧
  (A.drop off).take 13=opL kind id M prog cell size w dk dkey dval dmax kv dv∧kb<n0∧db<n0∧ByteArg h kb kv kl∧ByteArg h db dv dl∧kl.length≤140737488351232∧dl.length≤140737488351232∧Byt kl∧Byt dl
theorem cellsAt_same {h h':Heap} {p:Nat} {x:Rope V×Nat} (H:cellsAt h p=some x) (e:h'.get p=h.get p):cellsAt h' p=some x:=by unfold cellsAt at H ⊢; rw [e]; exact H
theorem long12_loop {n0 N:Nat} {mv:V} {h:Heap} (hO:OpsArg h n0 mv N) (hN:N≤200) {Q:X→St→Prop}
  (hQ0:∀ n s t3,F10_L110100 mv t3 h n s→Q (.exit 0) s) (hQ1:∀ n (L:List V),L[2]? = some (.s (.bool true))→Q .ret ⟨mkTm L,h,n,[]⟩) :
  ∀ m s,(∃ i n,m=N-i∧i≤N∧F10_L110100 mv (.s (.int .i64 (i:Nat))) h n s)→LoopK CC none (subC [1,1,0,1,0,0] (bodyOf Tryz.f10)) s Q:=by
 refine loopH CCok _ ?_
 rintro m s ⟨i,n,hm,hi,hs⟩ hlt
 obtain ⟨g,rfl⟩:=hs
 rw [F10_b110100]
 obtain ⟨hlen,hnorm,hix⟩:=hO
 by_cases hi':i<N
 ·have e3:wrapF .i64 ((i:Int)+1)=((i+1:Nat):Int):=by rw [wrapF_i64 (by omega) (by omega)]; rfl
  obtain ⟨p,off,A,es,kind,id',M',prog,cell,size,w',dk,dkey,dval,dmax,kv,dv',kl,dl,kb,db,pn,hx,hc,hA,ht,kn,dn,hk,hd,lk,ld,_⟩:=hix i hi'
  have a11:A[off+11]? = some kv:=by
   have:((A.drop off).take 13)[11]? = some kv:=by rw [ht]; rfl
   rwa [List.getElem?_take_of_lt (by omega),List.getElem?_drop] at this
  have a12:A[off+12]? = some dv':=by
   have:((A.drop off).take 13)[12]? = some dv':=by rw [ht]; rfl
   rwa [List.getElem?_take_of_lt (by omega),List.getElem?_drop] at this
  simp [hlen,hi',hx,hc,a11,hk.norm.1,hk.len]
  by_cases c1:(100:Int)<kl.length
  ·simp [c1,roundQ]
   exact hQ1 _ _ rfl
  ·simp [c1,hx,hc,a12,hd.norm.1,hd.len]
   by_cases c2:(200:Int)<dl.length
   ·simp [c2,roundQ]
    exact hQ1 _ _ rfl
   ·simp [c2,roundQ]
    exact ⟨N-(i+1),by omega,h,fun hok b o hb=>⟨o,hb,hok b o hb⟩,i+1,rfl,by omega,_,by rw [e3]; exact F10_L110100_of⟩
 ·have:i=N:=by omega
  subst this
  simp [hlen,roundQ]
  exact hQ0 n _ _ F10_L110100_of
theorem long12_ok {n0 N:Nat} {mv:V} {h:Heap} {n:Nat} (hO:OpsArg h n0 mv N):CallK CC 10 [mv] h n fun v h' n'=>(∃ b,v=.s (.bool b)∧(b=false→N≤200))∧h'=h:=by
 refine F10_call fun hlt=>?_
 rw [F10_eq]
 have hlen:=hO.1
 by_cases hN:(200:Int)<N
 ·simp [hlen,hN]
 ·simp [hlen,hN]
  refine long12_loop hO (by omega) ?_ ?_ _ _ ⟨0,n,rfl,by omega,F10_L110100_of⟩
  ·intro n' s t3 hs
   obtain ⟨g,rfl⟩:=hs
   rw [F10_r110100_0]
   exact ⟨.inl ⟨rfl,by omega⟩,rfl⟩
  ·intro n' L hL
   simp [resume,retW,dropDefs,hL]
def declsV:List OneM→List V
 | []=>[]
 | o::l=>.s (.int .i64 o.d.kind)::.s (.int .i64 o.d.key)::.s (.int .i64 o.d.val)::.s (.int .i64 o.d.mx)::declsV l
theorem declsV_append:∀ a b:List OneM,declsV (a++b)=declsV a++declsV b
 | [],_=>rfl
 | _::a,b=>by simp [declsV,declsV_append a b]
theorem declsV_len:∀ l:List OneM,(declsV l).length=l.length*4
 | []=>rfl
 | _::l=>by simp [declsV,declsV_len l]; omega
theorem declsV_at:∀ {l:List OneM} {i:Nat} {o:OneM},l[i]? = some o→(declsV l)[i*4]? = some (.s (.int .i64 o.d.kind))∧(declsV l)[i*4+3]? = some (.s (.int .i64 o.d.mx))
 | [],_,_,h=>by simp at h
 | p::l,0,o,h=>by simp at h; subst h; exact ⟨rfl,rfl⟩
 | p::l,i+1,o,h=>by
  have:=declsV_at (l:=l) (i:=i) (o:=o) (by simpa using h)
  rw [show (i+1)*4=i*4+4 by omega]
  simpa [declsV] using this
def DeclsB (n0 n:Nat) (h:Heap) (v:V) (ds:List OneM):Prop:=∃ a,GrowAt h a v 4 ds.length (declsV ds)∧n0≤a∧(a<n∨v=.s (.slice none 0 0))
theorem decls_loop {τ:Gh} {m c n0:Nat} {L:List Nat} {M:MM} {h0:Heap} {lv:V} (I0:TInv τ h0 n0) (H:MapsX τ m c L M) (hL:GrowM τ h0 m 0 lv 1 L.length (L.map fun p=>.ptr p 0)) {Q:X→St→Prop}
  (hQ:∀ t3 t11 h n s,F18_L110100 t3 lv (.s (.int .i64 (L.length:Nat))) t11 h n s→n0≤n→DeclsB n0 n h t3 M.ones→Same n0 [] h0 h→Q (.exit 0) s) :
  ∀ k s,(∃ (i:Nat) (t3:V) (h:Heap) (n:Nat),k=L.length-i∧i≤L.length∧F18_L110100 t3 lv (.s (.int .i64 (L.length:Nat))) (.s (.int .i64 (i:Nat))) h n s∧n0≤n∧DeclsB n0 n h t3 (M.ones.take i)∧Same n0 [] h0 h) →
   LoopK CC none (subC [1,1,0,1,0,0] (bodyOf Tryz.f18)) s Q:=by
 refine loopH CCok _ ?_
 rintro k s ⟨i,t3,h,n,hk,hi,hs,hn,⟨a,hG,ha,hor⟩,hsame⟩ hlt
 obtain ⟨g',rfl⟩:=hs
 rw [F18_b110100]
 replace hlt:∀ b o,h.get b=some o→b<n:=hlt
 have l8:=H.l8
 have hll:=H.len
 have htl:(M.ones.take i).length=i:=by simp; omega
 rw [htl] at hG
 by_cases hi':i<L.length
 ·have e3:wrapF .i64 ((i:Int)+1)=((i+1:Nat):Int):=by rw [wrapF_i64 (by omega) (by omega)]; rfl
  rcases hL with ⟨_,h0',_⟩ | ⟨_,d,hd,⟨_,h0',_⟩ | ⟨oo,cc,op,A,rfl,q2,q3,q4,q5,q6⟩⟩
  ·omega
  ·omega
  have hgd:=(hsame d (I0 d _ hd).1 (by simp)).trans q3
  have hAi:A[oo+i]? = some (.ptr L[i] 0):=by
   have:((A.drop oo).take (L.length*1))[i]? = some (.ptr L[i] 0):=by rw [q6]; simp [hi']
   rwa [List.getElem?_take_of_lt (by omega),List.getElem?_drop] at this
  have hoi:M.ones[i]? = some (M.ones[i]'(by omega)):=List.getElem?_eq_getElem _
  obtain ⟨o,ho⟩:∃ o,o=M.ones[i]'(by omega):=⟨_,rfl⟩
  rw [← ho] at hoi
  obtain ⟨by_,hp,_⟩:=H.one i _ o (List.getElem?_eq_getElem hi') hoi
  obtain ⟨hpn,pv,hg,hpv⟩:=I0 _ _ hp
  have hg1:=(hsame _ hpn (by simp)).trans hg
  have eT:declsV (M.ones.take (i+1))=declsV (M.ones.take i)++[.s (.int .i64 o.d.kind),.s (.int .i64 o.d.key),.s (.int .i64 o.d.val),.s (.int .i64 o.d.mx)]:=by
   have:M.ones.take (i+1)=M.ones.take i++[o]:=by rw [List.take_add_one,hoi]; rfl
   rw [this,declsV_append]; rfl
  have hrow:Row (h.set n (.cells (.lst [.s (.int .i64 o.d.kind),.s (.int .i64 o.d.key),.s (.int .i64 o.d.val),.s (.int .i64 o.d.mx)]) 4)) 4 1 [.s (.int .i64 o.d.kind),.s (.int .i64 o.d.key),.s (.int .i64 o.d.val),.s (.int .i64 o.d.mx)] (.slice n 0 1 1 false):=.row (A:=[.s (.int .i64 o.d.kind),.s (.int .i64 o.d.key),.s (.int .i64 o.d.val),.s (.int .i64 o.d.mx)]) (es:=4) (by simp [cellsAt,Tree.get_set]) rfl rfl
  obtain ⟨a2,c1,c2,hG'⟩:∃ a2,n0≤a2∧a2<n+1∧GrowAt (h.set n (.cells (.lst [.s (.int .i64 o.d.kind),.s (.int .i64 o.d.key),.s (.int .i64 o.d.val),.s (.int .i64 o.d.mx)]) 4)) a2 t3 4 i (declsV (M.ones.take i)):=by
   rcases hG with q | ⟨o1,k1,op1,A1,p1,p2,p3,p4⟩
   ·exact ⟨n,by omega,by omega,.inl q⟩
   ·have:=hlt _ _ p3
    exact ⟨a,ha,by omega,.inr ⟨o1,k1,op1,A1,p1,p2,by rw [Tree.get_set,if_neg (by omega)]; exact p3,p4⟩⟩
  simp [hi',blt_dec,cellsAt,hgd,hAi,hg1,ble_dec]
  refine grow_ok (m:=1) (new:=[.s (.int .i64 o.d.kind),.s (.int .i64 o.d.key),.s (.int .i64 o.d.val),.s (.int .i64 o.d.mx)]) (by decide) hG' hrow c2 (by omega) ?_
  intro v' a' h6 n6 ha' han' hn6 hG6 hs6
  simp [roundQ]
  exact ⟨L.length-(i+1),by omega,h6,fun hok b o hb=>⟨o,hb,hok b o hb⟩,i+1,rfl,by omega,v',h6,n6,by rw [e3]; exact F18_L110100_of,by omega,⟨a',by rw [eT,List.length_take,show min (i+1) M.ones.length=i+1 by omega]; exact hG6,by omega,.inl han'⟩,fun x hx _=>by rw [hs6 x (by omega) (by omega),Tree.get_set,if_neg (by omega),hsame x hx (by simp)]⟩
 ·have:i=L.length:=by omega
  subst this
  rw [List.take_of_length_le (by omega)] at hG
  simp [roundQ]
  exact hQ _ _ h n _ F18_L110100_of hn ⟨a,by rw [← hll]; exact hG,ha,hor⟩ hsame
theorem decls_ok {τ:Gh} {h:Heap} {n m c:Nat} {L:List Nat} {M:MM} (I:TInv τ h n) (H:MapsX τ m c L M) :
  CallK CC 18 [.ptr m 0] h n fun v h' n'=>DeclsB n n' h' v M.ones∧Same n [] h h':=by
 refine F18_call fun hlt=>?_
 rw [F18_eq]
 obtain ⟨hmn,lv,evv,es,hm,hL,_⟩:=I m _ H.m0
 have nl:=growM_norm hL
 have hlen:lenV CC h 118 lv=some (.s (.int .i64 (L.length:Nat))):=by
  rcases hL with ⟨rfl,h0,_⟩ | ⟨_,d,_,⟨rfl,h0,_⟩ | ⟨o,k,op,A,rfl,_⟩⟩
  ·simp [h0]
  ·simp [h0]
  ·simp
 simp [cellsAt,hm,nl.1,hlen]
 refine decls_loop I H hL ?_ _ _ ⟨0,_,h,n,rfl,by omega,F18_L110100_of,by omega,⟨n,GrowAt.nil _ _ _,by omega,.inr rfl⟩,Same.refl _ _ _⟩
 intro t3 t11 h' n' s hs hn hD hsame
 obtain ⟨g',rfl⟩:=hs
 rw [F18_r110100_0]
 exact ⟨hD,hsame⟩
end Go.Ev
end
section
namespace Go.Ev
open Proofs
open Go.Proofs
set_option maxRecDepth 20000
section
variable {P:Program} {hp:Heap} {t:TypeId} {us:List V}
theorem Desc.int_inv {k:IntKind} (D:Desc P hp t us) (hu:P.underlying t=some (.int k)):∃ x,us=[.s (.int k x)]:=by
 cases D with
 | int ht h=>rw [hu] at ht; cases ht; exact ⟨_,rfl⟩
 | bool ht=>rw [hu] at ht; cases ht
 | string ht h=>rw [hu] at ht; cases ht
 | nil ht=>rw [hu] at ht; cases ht
 | void ht=>rw [hu] at ht; cases ht
 | slice ht hg hl hc hb he=>rw [hu] at ht; cases ht
 | struct ht hl hf=>rw [hu] at ht; cases ht
 | array ht hl he=>rw [hu] at ht; cases ht
theorem Desc.slice_inv {e:TypeId} (D:Desc P hp t us) (hu:P.underlying t=some (.slice e)):us=[.s (.slice none 0 0)]∨(∃ a,us=[.s (.slice (some a) 0 0)]) ∨
  ∃ b len c L,us=[.slice b 0 len c false]∧hp.get b=some (.ro (.lst L) (P.cellsOf e))∧L.length=len*P.cellsOf e∧len*P.bytesOf e≤reachBytes∧∀ i,i<len→Desc P hp e ((L.drop (i*P.cellsOf e)).take (P.cellsOf e)):=by
 cases D with
 | int ht h=>rw [hu] at ht; cases ht
 | bool ht=>rw [hu] at ht; cases ht
 | string ht h=>rw [hu] at ht; cases ht
 | nil ht=>exact .inl rfl
 | void ht=>exact .inr (.inl ⟨_,rfl⟩)
 | slice ht hg hl hc hb he=>rw [hu] at ht; cases ht; exact .inr (.inr ⟨_,_,_,_,rfl,hg,hl,hb,he⟩)
 | struct ht hl hf=>rw [hu] at ht; cases ht
 | array ht hl he=>rw [hu] at ht; cases ht
theorem Desc.struct_inv {fs:Array Field} (D:Desc P hp t us) (hu:P.underlying t=some (.struct fs)):us.length=P.cellsOf t∧∀ (i:Nat) (f:Field),fs[i]? = some f→Desc P hp f.type ((us.drop f.offset).take (P.cellsOf f.type)):=by
 cases D with
 | int ht h=>rw [hu] at ht; cases ht
 | bool ht=>rw [hu] at ht; cases ht
 | string ht h=>rw [hu] at ht; cases ht
 | nil ht=>rw [hu] at ht; cases ht
 | void ht=>rw [hu] at ht; cases ht
 | slice ht hg hl hc hb he=>rw [hu] at ht; cases ht
 | struct ht hl hf=>rw [hu] at ht; cases ht; exact ⟨hl,hf⟩
 | array ht hl he=>rw [hu] at ht; cases ht
theorem Desc.int_wf {k:IntKind} {x:Int} (D:Desc P hp t [.s (.int k x)]) (hu:P.underlying t=some (.int k)):(Lit.int k x).wf=true:=by
 cases D with
 | int ht h=>exact h
 | struct ht hl hf=>rw [hu] at ht; cases ht
 | array ht hl he=>rw [hu] at ht; cases ht
theorem ints_of {e:TypeId} {k:IntKind} {L:List V} (hu:P.underlying e=some (.int k)) (he:∀ i,i<L.length→Desc P hp e ((L.drop (i*1)).take 1)):∃ l:List Int,L=l.map (fun x=>.s (.int k x))∧∀ x∈l,(Lit.int k x).wf=true:=by
 induction L with
 | nil=>exact ⟨[],rfl,fun x hx=>by simp at hx⟩
 | cons a L ih=>
  obtain ⟨l,hl,hw⟩:=ih fun i hi=>by
   have:=he (i+1) (by simpa using hi)
   simpa using this
  have h0:=he 0 (by simp)
  obtain ⟨x,hx⟩:=h0.int_inv hu
  simp at hx h0
  subst hx
  exact ⟨x::l,by simp [hl],fun y hy=>by
   rcases List.mem_cons.1 hy with rfl | hy
   ·exact h0.int_wf hu
   ·exact hw y hy⟩
end
theorem kc3:Tryz.prog.cellsOf 3=1:=by kernel_rfl
theorem kc5:Tryz.prog.cellsOf 5=1:=by kernel_rfl
theorem kc27:Tryz.prog.cellsOf 27=1:=by kernel_rfl
theorem kc29:Tryz.prog.cellsOf 29=4:=by kernel_rfl
theorem kc30:Tryz.prog.cellsOf 30=1:=by kernel_rfl
theorem kc32:Tryz.prog.cellsOf 32=13:=by kernel_rfl
theorem kb5:Tryz.prog.bytesOf 5=1:=by kernel_rfl
theorem kb32:Tryz.prog.bytesOf 32=136:=by kernel_rfl
theorem reach_eq:reachBytes=140737488351232:=by decide
theorem byte_wf {x:Int} (h:(Lit.int .u8 x).wf=true):0≤x∧x<256:=by
 simp only [Lit.wf,Bool.and_eq_true,decide_eq_true_eq] at h
 have h1:(0:Int)≤x:=h.1
 have h2:x≤255:=h.2
 omega
section
variable {hp:Heap} {us:List V}
theorem map_of {a b c d:V} (D:Desc Tryz.prog hp 29 [a,b,c,d]):∃ k w id m,a=.s (.int .i64 k)∧b=.s (.int .i64 w)∧c=.s (.int .i64 id)∧d=.s (.int .i64 m):=by
 obtain ⟨_,hf⟩:=D.struct_inv Tryz.underlying29
 have f0:Desc Tryz.prog hp 3 (([a,b,c,d].drop 0).take (Tryz.prog.cellsOf 3)):=hf 0 _ rfl
 have f1:Desc Tryz.prog hp 3 (([a,b,c,d].drop 1).take (Tryz.prog.cellsOf 3)):=hf 1 _ rfl
 have f2:Desc Tryz.prog hp 3 (([a,b,c,d].drop 2).take (Tryz.prog.cellsOf 3)):=hf 2 _ rfl
 have f3:Desc Tryz.prog hp 3 (([a,b,c,d].drop 3).take (Tryz.prog.cellsOf 3)):=hf 3 _ rfl
 rw [kc3] at f0 f1 f2 f3
 obtain ⟨x,hx⟩:=f0.int_inv Tryz.underlying3
 obtain ⟨y,hy⟩:=f1.int_inv Tryz.underlying3
 obtain ⟨z,hz⟩:=f2.int_inv Tryz.underlying3
 obtain ⟨m,hm⟩:=f3.int_inv Tryz.underlying3
 simp at hx hy hz hm
 exact ⟨x,y,z,m,hx,hy,hz,hm⟩
theorem op_of (D:Desc Tryz.prog hp 32 us):∃ kind id M prog cell size w dk dkey dval dmax kv dv,us=opL kind id M prog cell size w dk dkey dval dmax kv dv∧Desc Tryz.prog hp 30 [kv]∧Desc Tryz.prog hp 30 [dv]:=by
 obtain ⟨hl,hf⟩:=D.struct_inv Tryz.underlying32
 rw [kc32] at hl
 match us,hl with
 | [a0,a1,a2,a3,a4,a5,a6,a7,a8,a9,a10,a11,a12],_=>
  have f0:Desc Tryz.prog hp 3 (([a0,a1,a2,a3,a4,a5,a6,a7,a8,a9,a10,a11,a12].drop 0).take (Tryz.prog.cellsOf 3)):=hf 0 _ rfl
  have f1:Desc Tryz.prog hp 3 (([a0,a1,a2,a3,a4,a5,a6,a7,a8,a9,a10,a11,a12].drop 1).take (Tryz.prog.cellsOf 3)):=hf 1 _ rfl
  have f2:Desc Tryz.prog hp 3 (([a0,a1,a2,a3,a4,a5,a6,a7,a8,a9,a10,a11,a12].drop 2).take (Tryz.prog.cellsOf 3)):=hf 2 _ rfl
  have f3:Desc Tryz.prog hp 3 (([a0,a1,a2,a3,a4,a5,a6,a7,a8,a9,a10,a11,a12].drop 3).take (Tryz.prog.cellsOf 3)):=hf 3 _ rfl
  have f4:Desc Tryz.prog hp 3 (([a0,a1,a2,a3,a4,a5,a6,a7,a8,a9,a10,a11,a12].drop 4).take (Tryz.prog.cellsOf 3)):=hf 4 _ rfl
  have f5:Desc Tryz.prog hp 3 (([a0,a1,a2,a3,a4,a5,a6,a7,a8,a9,a10,a11,a12].drop 5).take (Tryz.prog.cellsOf 3)):=hf 5 _ rfl
  have f6:Desc Tryz.prog hp 27 (([a0,a1,a2,a3,a4,a5,a6,a7,a8,a9,a10,a11,a12].drop 6).take (Tryz.prog.cellsOf 27)):=hf 6 _ rfl
  have f7:Desc Tryz.prog hp 29 (([a0,a1,a2,a3,a4,a5,a6,a7,a8,a9,a10,a11,a12].drop 7).take (Tryz.prog.cellsOf 29)):=hf 7 _ rfl
  have f8:Desc Tryz.prog hp 30 (([a0,a1,a2,a3,a4,a5,a6,a7,a8,a9,a10,a11,a12].drop 11).take (Tryz.prog.cellsOf 30)):=hf 8 _ rfl
  have f9:Desc Tryz.prog hp 30 (([a0,a1,a2,a3,a4,a5,a6,a7,a8,a9,a10,a11,a12].drop 12).take (Tryz.prog.cellsOf 30)):=hf 9 _ rfl
  rw [kc3] at f0 f1 f2 f3 f4 f5
  rw [kc27] at f6
  rw [kc29] at f7
  rw [kc30] at f8 f9
  obtain ⟨x0,h0⟩:=f0.int_inv Tryz.underlying3
  obtain ⟨x1,h1⟩:=f1.int_inv Tryz.underlying3
  obtain ⟨x2,h2⟩:=f2.int_inv Tryz.underlying3
  obtain ⟨x3,h3⟩:=f3.int_inv Tryz.underlying3
  obtain ⟨x4,h4⟩:=f4.int_inv Tryz.underlying3
  obtain ⟨x5,h5⟩:=f5.int_inv Tryz.underlying3
  obtain ⟨x6,h6⟩:=f6.int_inv Tryz.underlying27
  obtain ⟨y0,y1,y2,y3,rfl,rfl,rfl,rfl⟩:=map_of f7
  simp at h0 h1 h2 h3 h4 h5 h6
  subst h0; subst h1; subst h2; subst h3; subst h4; subst h5; subst h6
  exact ⟨x0,x1,x2,x3,x4,x5,x6,y0,y1,y2,y3,a11,a12,rfl,f8,f9⟩
theorem lenVoid22 (h:Heap) (a:Addr):lenV CC h 22 (.s (.slice (some a) 0 0))=some (.s (.int .i64 0)):=of_eq (by kernel_rfl)
theorem lenNil22 (h:Heap):lenV CC h 22 (.s (.slice none 0 0))=some (.s (.int .i64 0)):=of_eq (by kernel_rfl)
theorem normNil:normV (.s (.slice none 0 0))=.s (.slice none 0 0)∧V.cells (.s (.slice none 0 0))=some (.one (.s (.slice none 0 0))):=⟨rfl,rfl⟩
theorem normVoid (a:Addr):normV (.s (.slice (some a) 0 0))=.s (.slice (some a) 0 0)∧V.cells (.s (.slice (some a) 0 0))=some (.one (.s (.slice (some a) 0 0))):=⟨rfl,rfl⟩
theorem normSlice (b o l c:Nat) (p:Bool):normV (.slice b o l c p)=.slice b o l c p∧V.cells (.slice b o l c p)=some (.one (.slice b o l c p)):=⟨rfl,rfl⟩
theorem bytes_of {v:V} {n0:Nat} (D:Desc Tryz.prog hp 30 [v]) (hn:∀ b o,hp.get b=some o→b<n0) (h0:0<n0):∃ b l,b<n0∧ByteArg hp b v l∧l.length≤140737488351232∧Byt l:=by
 rcases D.slice_inv Tryz.underlying30 with h | ⟨a,h⟩ | ⟨b,len,c,L,h,hg,hl,hb,he⟩
 ·simp at h; subst h
  exact ⟨0,[],h0,.inl (.inl ⟨rfl,rfl,rfl⟩),by simp,fun x hx=>by simp at hx⟩
 ·simp at h; subst h
  exact ⟨0,[],h0,.inr ⟨⟨a,rfl⟩,rfl⟩,by simp,fun x hx=>by simp at hx⟩
 ·simp at h; subst h
  rw [kc5] at hg hl he
  rw [kb5,reach_eq] at hb
  obtain ⟨l,rfl,hw⟩:=ints_of Tryz.underlying5 (L:=L) (fun i hi=>he i (by omega))
  have hll:l.length=len:=by simpa using hl
  refine ⟨b,l,hn b _ hg,.inl (.inr ⟨0,c,false,bytesV' l,1,by rw [hll],by simp [cellsAt,hg,bytesV'],?_,by simp [bytesV']⟩),by omega,fun x hx=>byte_wf (hw x hx)⟩
  rw [List.drop_zero]
  exact List.take_of_length_le (by simp [bytesV'])
theorem ops_of {v:V} {n0:Nat} (D:Desc Tryz.prog hp 22 [v]) (hn:∀ b o,hp.get b=some o→b<n0) (h0:0<n0):∃ N,N≤1040000000000∧OpsArg hp n0 v N:=by
 rcases D.slice_inv Tryz.underlying22 with h | ⟨a,h⟩ | ⟨b,len,c,L,h,hg,hl,hb,he⟩
 ·simp at h; subst h
  exact ⟨0,by omega,fun h'=>lenNil22 h',normNil,fun i hi=>by omega⟩
 ·simp at h; subst h
  exact ⟨0,by omega,fun h'=>lenVoid22 h' a,normVoid a,fun i hi=>by omega⟩
 ·simp at h; subst h
  rw [kc32] at hg hl he
  rw [kb32,reach_eq] at hb
  refine ⟨len,by omega,fun h'=>by simp,normSlice _ _ _ _ _,fun i hi=>?_⟩
  obtain ⟨kind,id,M,prog,cell,size,w,dk,dkey,dval,dmax,kv,dv,e,hk,hd⟩:=op_of (he i hi)
  obtain ⟨kb,kl,kn,ka,kk,ky⟩:=bytes_of hk hn h0
  obtain ⟨db,dl,dn,da,dd,dy⟩:=bytes_of hd hn h0
  exact ⟨b,0+i*13,L,13,kind,id,M,prog,cell,size,w,dk,dkey,dval,dmax,kv,dv,kl,dl,kb,db,hn b _ hg,by simp [show Nat.blt i len=true from (by rw [Nat.blt_eq]; exact hi)],by simp [cellsAt,hg],by omega,by simpa using e,kn,dn,ka,da,kk,dd,ky,dy⟩
end
end Go.Ev
end
section
namespace Go.Ev
open Proofs
set_option maxRecDepth 20000
theorem cond_cg {α:Type} {c c':Bool} {a b:α} (h:c=c'):(bif c then a else b)=(bif c' then a else b):=by rw [h]
attribute [local congr] cond_cg
theorem RowsB.row {n0 nR n:Nat} {h:Heap} {v:V} {rs:List (List Int×List Int)} (H:RowsB n0 nR n h v rs) {j:Nat} (hj:j<rs.length) :
  ∃ a o A x y b d,indexAddr CC 40 v (.s (.int .i64 (j:Nat)))=some (.ptr a (o+j*2))∧h.get a=some (.cells (.lst A) 2)∧A[o+j*2]? = some x∧A[o+j*2+1]? = some y∧BytesAt h b x rs[j].1∧BytesAt h d y rs[j].2∧a<n∧b<n∧d<n∧normV x=x∧normV y=y:=by
 obtain ⟨a,cs,hG,ha,hor,hl,hr⟩:=H
 obtain ⟨w,x,b,d,hw,hx,hb,hd,b0,bn,_,d0,dn,_⟩:=hr j _ (List.getElem?_eq_getElem hj)
 rcases hG with ⟨_,h0,_⟩ | ⟨o,c,op,A,rfl,hc,hg,hA,_,hcs⟩
 ·omega
 have an:a<n:=by rcases hor with h | h; exact h; cases h
 have at_:∀ k x,cs[k]? = some x→A[o+k]? = some x:=fun k x hk=>by
  rw [← hcs] at hk
  have hkl:k<rs.length*2:=by
   have:=(List.getElem?_eq_some_iff.1 hk).1
   simp at this; omega
  rwa [List.getElem?_take_of_lt hkl,List.getElem?_drop] at hk
 refine ⟨a,o,A,w,x,b,d,by simp [show Nat.blt j rs.length=true from by rw [Nat.blt_eq]; exact hj],hg,?_,?_,hb,hd,an,bn,dn,(norm_bytesAt hb).1,(norm_bytesAt hd).1⟩
 ·rw [Nat.mul_comm]; exact at_ _ _ hw
 ·rw [Nat.mul_comm,Nat.add_assoc]; exact at_ _ _ hx
theorem DeclsB.row {n0 n:Nat} {h:Heap} {v:V} {ds:List OneM} (H:DeclsB n0 n h v ds) {j:Nat} {o:OneM} (hj:ds[j]? = some o) :
  ∃ a k A,indexAddr CC 42 v (.s (.int .i64 (j:Nat)))=some (.ptr a (k+j*4))∧h.get a=some (.cells (.lst A) 4)∧A[k+j*4]? = some (.s (.int .i64 o.d.kind))∧A[k+j*4+3]? = some (.s (.int .i64 o.d.mx))∧a<n:=by
 obtain ⟨a,hG,ha,hor⟩:=H
 have hjl:=(List.getElem?_eq_some_iff.1 hj).1
 rcases hG with ⟨_,h0,_⟩ | ⟨k,c,op,A,rfl,hc,hg,hA,_,hcs⟩
 ·omega
 have an:a<n:=by rcases hor with h | h; exact h; cases h
 have at_:∀ i x,(declsV ds)[i]? = some x→A[k+i]? = some x:=fun i x hk=>by
  have hil:=(List.getElem?_eq_some_iff.1 hk).1
  rw [declsV_len] at hil
  rw [← hcs] at hk
  rwa [List.getElem?_take_of_lt hil,List.getElem?_drop] at hk
 obtain ⟨h1,h2⟩:=declsV_at hj
 exact ⟨a,k,A,by simp [show Nat.blt j ds.length=true from by rw [Nat.blt_eq]; exact hjl],hg,at_ _ _ h1,by rw [Nat.add_assoc]; exact at_ _ _ h2,an⟩
theorem RowsB.len {n0 nR n:Nat} {h:Heap} {v:V} {rs:List (List Int×List Int)} (H:RowsB n0 nR n h v rs) (h':Heap):lenV CC h' 40 v=some (.s (.int .i64 (rs.length:Nat))):=by
 obtain ⟨a,cs,hG,_⟩:=H
 rcases hG with ⟨rfl,h0,_⟩ | ⟨o,c,op,A,rfl,_⟩
 ·rw [h0]; simp
 ·simp
theorem DeclsB.len {n0 n:Nat} {h:Heap} {v:V} {ds:List OneM} (H:DeclsB n0 n h v ds) (h':Heap):lenV CC h' 42 v=some (.s (.int .i64 (ds.length:Nat))):=by
 obtain ⟨a,hG,_⟩:=H
 rcases hG with ⟨rfl,h0,_⟩ | ⟨o,c,op,A,rfl,_⟩
 ·rw [h0]; simp
 ·simp
theorem valO_at {M:MM} {o:OneM} (K:KeysOk o) (j:Nat) (hj:j<(keysO o).length) (hp:∀ l,o.by_≠.progs l):∃ x,findO o ((keysO o).getD j [])=some x∧valO M o j ((keysO o).getD j [])=bytesF M.C x:=by
 have e:(keysO o).getD j []=(keysO o)[j]:=by rw [List.getD_eq_getElem?_getD,List.getElem?_eq_getElem hj]; rfl
 obtain ⟨x,hx⟩:=K.there hp (keysO o)[j] (List.getElem_mem _)
 refine ⟨x,by rw [e]; exact hx,?_⟩
 unfold valO
 rw [e,hx]
 cases hb:o.by_ with
 | progs l=>exact absurd hb (hp l)
 | _=>rfl
theorem good_found {M:MM} (G:GoodM M) {id:Int} {o:OneM} (h:M.at id=some o) {k:List Int} {x:Int} (hf:findO o k=some x):∃ l,M.C x=some (l,false)∧(l.length:Int)=o.d.val∧1≤l.length∧l.length≤64:=by
 have hm:=List.mem_of_getElem? (MM.at_some h).2
 obtain ⟨l,h1,h2⟩:=G.live o hm _ x (find_slot hf)
 obtain ⟨k1,k2,k3,k4,_⟩:=(G.fine o hm).1.may
 exact ⟨l,h1,h2,by omega,by omega⟩
theorem bytesF_at {C:CM} {x:Int} {l:List Int} {b:Bool} (h:C x=some (l,b)):bytesF C x=l:=by unfold bytesF; rw [h]
end Go.Ev
end
section
namespace Go.Ev
open Proofs
set_option maxRecDepth 20000
attribute [local simp ↓] oK_S cond_S callK_S loopK_S
attribute [local simp] oKS_some condS_t condS_f
structure Goer (hp:Heap) (n0 m c:Nat) (i:Nat) (h:Heap) (n:Nat) (τ:Gh) (L:List Nat) (M:MM):Prop where
 I:TInv τ h n
 H:MapsX τ m c L M
 G:GoodM M
 le:n0≤n
 non:∀ x,x<n0→τ x=none∧h.get x=hp.get x
 la:M.last≤64*(i:Int)
 ev:M.ev.length≤2*i
theorem Goer.same {hp h h':Heap} {n0 m c i n n':Nat} {τ:Gh} {L:List Nat} {M:MM} (g:Goer hp n0 m c i h n τ L M) (s:Same n [] h h') (hn:n≤n'):Goer hp n0 m c i h' n' τ L M:=
 ⟨g.I.same s hn,g.H,g.G,by have:=g.le; omega,fun x hx=>⟨(g.non x hx).1,by rw [s x (by have:=g.le; omega) (by simp)]; exact (g.non x hx).2⟩,g.la,g.ev⟩
theorem Goer.go {hp h h':Heap} {n0 m c i n n':Nat} {τ τ':Gh} {L L':List Nat} {M M':MM} (g:Goer hp n0 m c i h n τ L M) (I':TInv τ' h' n') (K:Keep anyFp τ τ' n h h') (hn:n≤n') (H':MapsX τ' m c L' M') (G':GoodM M') (gr:GrowB M M'):Goer hp n0 m c (i+1) h' n' τ' L' M':=
 ⟨I',H',G',by have:=g.le; omega,fun x hx=>by
  have h1:=g.non x hx
  have h2:=K.non x (by have:=g.le; omega) h1.1
  exact ⟨h2.1,h2.2.trans h1.2⟩,by have:=g.la; have:=gr.2.1; omega,by have:=g.ev; have:=gr.2.2; omega⟩
end Go.Ev
end
section
namespace Go.Ev
open Proofs
set_option maxRecDepth 20000
attribute [local simp ↓] oK_S cond_S callK_S loopK_S
attribute [local simp] oKS_some condS_t condS_f
theorem tinv_nil {h:Heap} {n:Nat}:TInv (fun _=>Option.none) h n:=fun b k e=>by cases e
theorem GoodM.nil:GoodM ⟨fun _=>none,0,[],0,[]⟩:=⟨fun o ho=>by simp at ho,fun x hx=>absurd rfl hx,Int.le_refl _,fun o ho=>by simp at ho,fun i j o o' s s' x h=>by simp at h⟩
end Go.Ev
end
