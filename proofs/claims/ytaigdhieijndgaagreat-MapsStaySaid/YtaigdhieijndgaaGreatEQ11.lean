import Derived.Test.YtaigdhieijndgaaGreatEQ10
section
namespace Go.Ev
variable {C:Ctx}
section
variable {L:List Oper} {p:Plan} {s:St} {M:List Made} {G:List Stage} {vA:Nat→V}
variable {ρ0:Ren} {w0:World} {ds:List Deferred} {mask k:Nat} {ρ:Ren} {st:Stage} {listed:Array Bool} {a:Act} {w:World}
theorem Inv.change (I:Inv C L p s M G vA ρ0 w0 ds mask k ρ st listed a w) {M':List Made} {G':List Stage} {vA':Nat→V} (hv:∀ j,listed.getD j false=true→vA' j=vA j) (hG:G'[k]? = some st)
  (hM:∀ J b,(withMade mask J M' st.h).get b=(withMade mask J M st.h).get b) (hn:∀ j,(mO M j).isSome=true→(mO M' j).isSome=true):Inv C L p s M' G' vA' ρ0 w0 ds mask k ρ st listed a w:=by
 refine ⟨I.masked,I.lsize,I.down,I.acts,I.kq,hG,I.stn,I.tsize,fun t=>?_,I.defs,I.evo.congr fun b=>hM _ b,fun j hj x hx=>?_,I.joined,I.dis,I.fr⟩
 ·have:cur L s vA' (fun q=>listed.getD q false) t=cur L s vA (fun q=>listed.getD q false) t:=by
   unfold cur
   split
   ·rename_i q _
    cases hl:listed.getD q false with
    | false=>simp only [hl,cond_false]
    | true=>simp only [hl,cond_true,hv q hl]
   ·rfl
  rw [this]; exact I.tm t
 ·obtain ⟨q1,q2⟩:=I.names j hj x hx
  exact ⟨q1,hn j q2⟩
theorem Inv.more2 (P:PlanC C L p) (I:Inv C L p s M G vA ρ0 w0 ds mask k ρ st listed a w) {i:Nat} {o:Oper} (hL:L[i]? = some o) (hdst:∀ t,o.dst=some t→t<s.tm.n)
  (hpre:∀ j,bit (p.preds.getD i 0) j=true→listed.getD j false=true) {ρ':Ren} (hle:ρ.le ρ') {y:Value} (hy:VRel ρ' (vA i) y) :
  (∀ j,bit (Nat.lor mask (one i)) j=(listed.setIfInBounds i true).getD j false) ∧
  (∀ i' j,(listed.setIfInBounds i true).getD i' false=true→bit (p.preds.getD i' 0) j=true→(listed.setIfInBounds i true).getD j false=true) ∧
  (a.put o.dst y).tmps.size=s.tm.n∧(∀ t,VRel ρ' (cur L s vA (fun q=>(listed.setIfInBounds i true).getD q false) t) ((a.put o.dst y).tmps.getD t undef))∧(a.put o.dst y).defers=ds:=by
 have hi:i<L.length:=(List.getElem?_eq_some_iff.1 hL).1
 have hi':i<listed.size:=by rw [I.lsize]; exact hi
 have hd:=getD_set hi'
 refine ⟨?_,?_,?_,?_,?_⟩
 ·intro j
  rw [bit_lor,bit_one,hd,I.masked]
  by_cases e:j=i
  ·subst e; simp
  ·rw [if_neg e]
   have:¬ i=j:=fun x=>e x.symm
   simp [this]
 ·intro i' j h1 h2
  rw [hd] at h1 ⊢
  by_cases e:j=i
  ·rw [if_pos e]
  ·rw [if_neg e]
   by_cases e':i'=i
   ·subst e'; exact hpre j h2
   ·rw [if_neg e'] at h1; exact I.down i' j h1 h2
 ·cases hd':o.dst with
  | none=>exact I.tsize
  | some d=>simp [Act.put,I.tsize]
 ·intro t
  by_cases e:o.dst=some t
  ·have hw:=writer_of P.once hL e
   have:cur L s vA (fun q=>(listed.setIfInBounds i true).getD q false) t=vA i:=by
    unfold cur; rw [hw]; simp only; rw [hd,if_pos rfl]; rfl
   rw [this,e]
   have ht:t<a.tmps.size:=by rw [I.tsize]; exact hdst t e
   simp only [Act.put]
   have:(a.tmps.setIfInBounds t y).getD t undef=y:=by simp [ht]
   rw [this]; exact hy
  ·have e1:cur L s vA (fun q=>(listed.setIfInBounds i true).getD q false) t=cur L s vA (fun q=>listed.getD q false) t:=by
    unfold cur
    split
    ·rename_i q hq
     have hne:q≠i:=by
      rintro rfl
      obtain ⟨q',o',e1,e2,e3⟩:=writer_some hq
      have:q'=q:=by omega
      subst this
      rw [hL] at e2; cases e2
      exact e e3
     simp only [hd,if_neg hne]
    ·rfl
   have e2:(a.put o.dst y).tmps.getD t undef=a.tmps.getD t undef:=by
    cases hdst:o.dst with
    | none=>rfl
    | some d=>
     have:d≠t:=by rintro rfl; exact e hdst
     simp [Act.put,Array.getElem?_setIfInBounds_ne this]
   rw [e1,e2]; exact (I.tm t).mono hle
 ·cases hd':o.dst with
  | none=>exact I.defs
  | some d=>exact I.defs
theorem Inv.actsStay2 (P:PlanC C L p) (I:Inv C L p s M G vA ρ0 w0 ds mask k ρ st listed a w) {i:Nat} {o:Oper} (hL:L[i]? = some o) (hk:kindOf C o≠.act) :
  ∀ t x,p.acts[t]? = some x→((listed.setIfInBounds i true).getD x false=true↔t<k):=by
 intro t x hx
 have hi':i<listed.size:=by rw [I.lsize]; exact (List.getElem?_eq_some_iff.1 hL).1
 have hne:x≠i:=by
  rintro rfl
  obtain ⟨o',e2,e3⟩:=P.act_kind hx
  rw [hL] at e2; cases e2; exact hk e3
 rw [getD_set hi',if_neg hne]
 exact I.acts t x hx
theorem Inv.actsNext2 (P:PlanC C L p) (I:Inv C L p s M G vA ρ0 w0 ds mask k ρ st listed a w) {i t:Nat} (ht:p.acts[t]? = some i) (hun:listed.getD i false=false) (hi':i<listed.size)
  (hpre:∀ j,bit (p.preds.getD i 0) j=true→listed.getD j false=true) :
  t=k∧∀ t' x,p.acts[t']? = some x→((listed.setIfInBounds i true).getD x false=true↔t' < k+1):=by
 have h1:¬ t<k:=by intro h; rw [(I.acts t i ht).2 h] at hun; cases hun
 have h2:t=k:=by
  by_cases h0:t=0
  ·omega
  ·have hlt:=(List.getElem?_eq_some_iff.1 ht).1
   have hx:p.acts[t-1]? = some p.acts[t-1]:=by simp
   have:=P.chain (t-1) _ i hx (by rw [show t-1+1=t from by omega]; exact ht)
   have:=(I.acts (t-1) _ hx).1 (hpre _ this)
   omega
 subst h2
 refine ⟨rfl,fun t' x hx=>?_⟩
 rw [getD_set hi']
 by_cases e:x=i
 ·rw [if_pos e]
  subst e
  have:t'=t:=by
   rcases Nat.lt_trichotomy t t' with h | h | h
   ·have:=P.act_sorted ht hx h; omega
   ·exact h.symm
   ·have:=P.act_sorted hx ht h; omega
  simp; omega
 ·rw [if_neg e,I.acts t' x hx]
  constructor
  ·omega
  ·intro h
   by_cases e':t'=t
   ·subst e'; rw [ht] at hx; cases hx; exact absurd rfl e
   ·omega
theorem Inv.sub2 (hmade:∀ m∈M,m.i<L.length∧m.id=s.n+m.i) (I:Inv C L p s M G vA ρ0 w0 ds mask k ρ st listed a w) {pre:Nat} (hpre:∀ j,bit pre j=true→listed.getD j false=true) :
  ∀ b o,(withMade pre st.joined M st.h).get b=some o→(withMade mask st.joined M st.h).get b=some o:=by
 have hid:∀ m∈M,m.id=s.n+m.i:=fun m hm=>(hmade m hm).2
 have hlt:∀ m∈M,m.i<L.length:=fun m hm=>(hmade m hm).1
 intro b o
 rw [withMade_get hid,withMade_get hid]
 unfold ovr
 cases hb:Nat.ble s.n b with
 | false=>simp
 | true=>
  have hb':s.n≤b:=by simpa using hb
  simp only [Bool.true_and]
  cases hJ:bit st.joined (b-s.n) with
  | true=>simp
  | false=>
   simp only [Bool.not_false,Bool.and_true]
   cases hp:bit pre (b-s.n) with
   | true=>
    have:bit mask (b-s.n)=true:=by rw [I.masked]; exact hpre _ hp
    rw [this]; exact id
   | false=>
    simp only [cond_false,Option.none_or]
    intro h
    cases hm:bit mask (b-s.n) with
    | false=>simpa using h
    | true=>
     simp only [cond_true]
     cases ho:mO M (b-s.n) with
     | none=>simpa using h
     | some o'=>
      have:=I.dis (b-s.n) (mO_lt hlt ho) hJ
      rw [show s.n+(b-s.n)=b from by omega,h] at this
      cases this
theorem Inv.still2 (P:PlanC C L p) (hmade:∀ m∈M,m.i<L.length∧m.id=s.n+m.i) (I:Inv C L p s M G vA ρ0 w0 ds mask k ρ st listed a w) {i:Nat} {o:Oper} (hL:L[i]? = some o) (hdst:∀ t,o.dst=some t→t<s.tm.n)
  (hpre:∀ j,bit (p.preds.getD i 0) j=true→listed.getD j false=true) {y:Value} (hy:VRel ρ (vA i) y) (hm:mO M i=none)
  {k':Nat} (hk':k'≤p.acts.length) (hst:G[k']? = some st) (hacts:∀ t x,p.acts[t]? = some x→((listed.setIfInBounds i true).getD x false=true↔t<k')) :
  Inv C L p s M G vA ρ0 w0 ds (Nat.lor mask (one i)) k' ρ st (listed.setIfInBounds i true) (a.put o.dst y) w:=by
 obtain ⟨h1,h2,h3,h4,h5⟩:=I.more2 P hL hdst hpre (Ren.le_refl ρ) hy
 have hi':i<listed.size:=by rw [I.lsize]; exact (List.getElem?_eq_some_iff.1 hL).1
 have hid:∀ m∈M,m.id=s.n+m.i:=fun m hm=>(hmade m hm).2
 have up:∀ j,listed.getD j false=true→(listed.setIfInBounds i true).getD j false=true:=fun j hj=>by rw [getD_set hi']; split <;> simp_all
 refine ⟨h1,by simp [I.lsize],h2,hacts,hk',hst,I.stn,h3,h4,h5,I.evo.congr fun b=>?_,fun j hj x hx=>?_,fun j hj=>up j (I.joined j hj),I.dis,I.fr⟩
 ·rw [withMade_get hid,withMade_get hid,ovr_more hm]
 ·obtain ⟨k1,k2⟩:=I.names j hj x hx
  exact ⟨up j k1,k2⟩
theorem Inv.reads2 (P:PlanC C L p) (I:Inv C L p s M G vA ρ0 w0 ds mask k ρ st listed a w) {i:Nat} {o:Oper} (hL:L[i]? = some o)
  (hun:listed.getD i false=false) (hpre:∀ j,bit (p.preds.getD i 0) j=true→listed.getD j false=true) {tm:Tm}
  (htm:∀ x∈guardTmps L o++opTmps o.op.operands.toList,tm.get x=cur L s vA (fun q=>bit (p.preds.getD i 0) q) x) :
  ∀ t,t∈guardTmps L o++opTmps o.op.operands.toList→VRel ρ (tm.get t) (a.tmps.getD t undef):=by
 intro t ht
 have e:tm.get t=cur L s vA (fun q=>listed.getD q false) t:=by
  rw [htm t ht]
  unfold cur
  split
  ·rename_i q hq
   obtain ⟨h1,h2⟩:=P.reads i o hL t ht q hq
   have:bit (p.preds.getD i 0) q=listed.getD q false:=by
    cases hb:bit (p.preds.getD i 0) q with
    | true=>exact (hpre q hb).symm
    | false=>
     rcases Nat.lt_trichotomy q i with h | h | h
     ·have:=h1 h; rw [hb] at this; cases this
     ·subst h; exact hun.symm
     ·cases hl:listed.getD q false with
      | false=>rfl
      | true=>rw [I.down q i hl (h2 h)] at hun; cases hun
   show (bif bit (p.preds.getD i 0) q then vA q else s.tm.get t)=bif listed.getD q false then vA q else s.tm.get t
   rw [this]
  ·rfl
 rw [e]; exact I.tm t
theorem Inv.acted (P:PlanC C L p) (hmade:∀ m∈M,m.i<L.length∧m.id=s.n+m.i) (I:Inv C L p s M G vA ρ0 w0 ds mask k ρ st listed a w) {i:Nat} {o:Oper} (hL:L[i]? = some o) (hact:p.acts[k]? = some i) (hdst:∀ t,o.dst=some t→t<s.tm.n)
  (hun:listed.getD i false=false) (hpre:∀ j,bit (p.preds.getD i 0) j=true→listed.getD j false=true) {ρ':Ren} {y:Value} {w':World} {st':Stage}
  (ev:Evo ρ (withMade (p.preds.getD i 0) st.joined M st.h) st.n w ρ' st'.h st'.n w') (hy:VRel ρ' (vA i) y) (hj:st'.joined=joinMade (p.preds.getD i 0) M st.joined) (hm:mO M i=none) (hG:G[k+1]? = some st') :
  Inv C L p s M G vA ρ0 w0 ds (Nat.lor mask (one i)) (k+1) ρ' st' (listed.setIfInBounds i true) (a.put o.dst y) w':=by
 have hlt:i<L.length:=(List.getElem?_eq_some_iff.1 hL).1
 have hi':i<listed.size:=by rw [I.lsize]; exact hlt
 have hid:∀ m∈M,m.id=s.n+m.i:=fun m hm=>(hmade m hm).2
 have hmlt:∀ m∈M,m.i<L.length:=fun m hm=>(hmade m hm).1
 have up:∀ j,listed.getD j false=true→(listed.setIfInBounds i true).getD j false=true:=fun j hj=>by rw [getD_set hi']; split <;> simp_all
 obtain ⟨_,hn⟩:=I.actsNext2 P hact hun hi' hpre
 have hlen:k+1≤p.acts.length:=(List.getElem?_eq_some_iff.1 hact).1
 obtain ⟨k1,k2,k3,k4,k5⟩:=I.more2 P hL hdst hpre ev.le hy
 have hJ':∀ j,bit st'.joined j=(bit st.joined j || (bit (p.preds.getD i 0) j && (mO M j).isSome)):=fun j=>by rw [hj,joinMade_bit]
 have nameOld:∀ j,j<L.length→∀ x,ρ' (s.n+j)=some x→ρ (s.n+j)=some x:=by
  intro j hjl x hx
  cases hρ:ρ (s.n+j) with
  | some x'=>rw [ev.le _ _ hρ] at hx; exact hx
  | none=>have:=ev.new _ x hx hρ; have:=I.stn; omega
 have wide:Evo ρ (withMade mask st.joined M st.h) st.n w ρ' (withMade (Nat.lor mask (one i)) st'.joined M st'.h) st'.n w':=by
  refine ev.widen I.evo.hrel (I.sub2 hmade hpre) fun b ob hb=>?_
  rw [withMade_get hid,ovr_more hm] at hb
  cases ho':ovr mask st'.joined M s.n b with
  | none=>rw [ho'] at hb; exact .inl (by simpa using hb)
  | some o'=>
   right
   rw [ho'] at hb
   have:o'=ob:=by simpa using hb
   subst this
   unfold ovr at ho'
   replace ho':=of_cond_some ho'
   obtain ⟨c1,c2⟩:=ho'
   simp only [Bool.and_eq_true,Bool.not_eq_true'] at c1
   obtain ⟨c3,c4,c5⟩:=c1
   have hbn:s.n≤b:=by simpa using c3
   rw [hJ',Bool.or_eq_false_iff] at c5
   obtain ⟨c5,c6⟩:=c5
   rw [c2] at c6
   have c6:bit (p.preds.getD i 0) (b-s.n)=false:=by simpa using c6
   have hjl:=mO_lt hmlt c2
   refine ⟨?_,?_⟩
   ·rw [withMade_get hid]
    unfold ovr
    rw [c3,c4,c5,c2]; rfl
   ·rw [withMade_get hid]
    unfold ovr
    rw [c6]
    have:=I.dis _ hjl c5
    rw [show s.n+(b-s.n)=b from by omega] at this
    rw [this]; simp
 refine ⟨k1,by simp [I.lsize],k2,hn,hlen,hG,by have:=I.stn; have:=ev.num; omega,k3,k4,k5,I.evo.trans wide,?_,?_,?_,I.fr.evo ev⟩
 ·intro j hjl x hx
  obtain ⟨q1,q2⟩:=I.names j hjl x (nameOld j hjl x hx)
  exact ⟨up j q1,q2⟩
 ·intro j hb
  rw [hJ',Bool.or_eq_true_iff] at hb
  rcases hb with hb | hb
  ·exact up j (I.joined j hb)
  ·simp only [Bool.and_eq_true] at hb; exact up j (hpre j hb.1)
 ·intro j hjl hb
  rw [hJ',Bool.or_eq_false_iff] at hb
  obtain ⟨b1,b2⟩:=hb
  cases hx:st'.h.get (s.n+j) with
  | none=>rfl
  | some o'=>
   exfalso
   obtain ⟨c,sh,ex,x,q1,q2,q3⟩:=ev.hrel.obj _ o' hx
   have q4:=nameOld j hjl _ q1
   obtain ⟨m1,m2⟩:=I.names j hjl _ q4
   rw [m2] at b2
   have b2:bit (p.preds.getD i 0) j=false:=by simpa using b2
   obtain ⟨om,hom⟩:=Option.isSome_iff_exists.1 m2
   have hbig:(withMade mask st.joined M st.h).get (s.n+j)=some om:=by
    rw [withMade_get hid]
    unfold ovr
    rw [Nat.add_sub_cancel_left,show Nat.ble s.n (s.n+j)=true from by simp,I.masked,m1,b1,hom]; rfl
   cases hown:o'.own with
   | false=>
    have z1:=ev.ros _ o' hx hown
    rw [withMade_get hid,I.dis j hjl b1] at z1
    unfold ovr at z1
    rw [Nat.add_sub_cancel_left,b2] at z1
    simp at z1
   | true=>
   rcases ev.dom _ o' _ hx hown q1 with ⟨b0,o0,x0,z1,z0,z2,z3⟩ | hge
   ·have:=I.evo.hrel.inj b0 (s.n+j) o0 om x0 _ (I.sub2 hmade hpre _ _ z1) hbig z0 z2 q4 z3
    subst this
    rw [withMade_get hid,I.dis j hjl b1] at z1
    unfold ovr at z1
    rw [Nat.add_sub_cancel_left,b2] at z1
    simp at z1
   ·have:=I.evo.hrel.lt hbig q4
    simp at this hge; omega
end
end Go.Ev
end
section
namespace Go.Ev
variable {C:Ctx}
section
variable {L:List Oper} {p:Plan} {s:St}
variable {ρ0:Ren} {w0:World} {ds:List Deferred}
theorem step_plain (hC:C.Ok) (P:PlanC C L p) {d:DS} {t:Nat} {tmA:Nat→Tm} {vA:Nat→V} (R:RecP C L p s d t L.length tmA vA) (hg0:GRel C ρ0)
  {mask:Nat} {ρ:Ren} {st:Stage} {listed:Array Bool} {a:Act} {w:World} (I:Inv C L p s d.made d.stages.reverse vA ρ0 w0 ds mask t ρ st listed a w) {ops:Array Oper} (hops:ops.toList=L)
  {i:Nat} {o:Oper} (hL:L[i]? = some o) (hka:kindOf C o≠.act) (hdone:pdB C L p t L.length i=true) (hun:listed.getD i false=false) (hpre:∀ j,bit (p.preds.getD i 0) j=true→listed.getD j false=true)
  {r:Option Nat} {N:Nat} {Q:Exit→Act→World→Prop} {K:Act→World→Prop}
  (hK:∀ mask' ρ' a' w',Inv C L p s d.made d.stages.reverse vA ρ0 w0 ds mask' t ρ' st (listed.setIfInBounds i true) a' w'→K a' w'):wpOpIn (Wd r) N C.P ops Q i K a w:=by
 have ho:ops[i]? = some o:=by rw [← Array.getElem?_toList,hops]; exact hL
 have hlt:i<L.length:=(List.getElem?_eq_some_iff.1 hL).1
 have hi':i<listed.size:=by rw [I.lsize]; exact hlt
 have hmade:∀ m∈d.made,m.i<L.length∧m.id=s.n+m.i:=fun m hm=>⟨(R.made m hm).1,(R.made m hm).2.1⟩
 have hid:∀ m∈d.made,m.id=s.n+m.i:=fun m hm=>(hmade m hm).2
 have hdst:=R.dst i o hL hdone
 obtain ⟨htn,htm⟩:=R.tma i o hL hdone
 have hle0:ρ0.le ρ:=I.evo.le
 have hgr:GRel C ρ:=hg0.mono hle0
 have hrd:=I.reads2 P hL hun hpre htm
 have hsz:a.tmps.size=(tmA i).n:=by rw [htn]; exact I.tsize
 have hwant:Region.wanted o (yielded ops a.tmps)=wantedT L (tmA i) o:=by
  have:=wantedT_eq (ops:=ops) (tm:=tmA i) (a:=a) (o:=o) (ρ:=ρ) hsz (fun t ht=>hrd t (List.mem_append_left _ (by rw [hops] at ht; exact ht)))
  rw [hops] at this; exact this
 have hev:∀ x∈o.op.operands,∀ u,evalT C (tmA i) x=some u→VRel ρ u (a.eval x):=by
  intro x hx u hu
  refine evalT_rel hgr (fun t ht=>?_) hu
  subst ht
  exact hrd t (List.mem_append_right _ (opTmps_mem (by simpa using hx)))
 have up:∀ j,listed.getD j false=true→(listed.setIfInBounds i true).getD j false=true:=fun j hj=>by rw [getD_set hi']; split <;> simp_all
 have Hsmall:HRel ρ (withMade (p.preds.getD i 0) st.joined d.made st.h) w:=I.evo.hrel.weaken (I.sub2 hmade hpre)
 unfold wpOpIn
 simp only [ho]
 cases R.facts i o hL hdone hka with
 | skip hw hv hm hk=>
  rw [hwant,hw]
  refine ⟨about_wd r C.P w o a,?_⟩
  have hy:VRel ρ (vA i) undef:=by rw [hv]; exact .s _
  exact hK _ _ _ _ (I.still2 P hmade hL hdst hpre hy hm I.kq I.stage (I.actsStay2 P hL hka))
 | quiet hw hk hr hm=>
  rw [hwant,hw]
  obtain ⟨v0,hr,hv0⟩:=hr
  obtain ⟨y,h1,h2⟩:=rd_run hC (HRel.leaf ρ w) (σ:=a.eval) hr hev
  exact wpIn_value (rd_noDefer hr) h1 (hK _ _ _ _ (I.still2 P hmade hL hdst hpre (hv0 _ _ h2) hm I.kq I.stage (I.actsStay2 P hL hk)))
 | read hw hk hr hm=>
  rw [hwant,hw]
  have hs:stg p i≤t:=by rw [pdB_eq hL] at hdone; omega
  have h0':=(R.rds _ hr).2.2 hw t st I.stage hs (le_countNotAhead I.kq fun t' x h1 h2=>by
    cases hb:bit (p.preds.getD x 0) i with
    | false=>rfl
    | true=>rw [I.down x i ((I.acts t' x h2).2 h1) hb] at hun; cases hun)
  obtain ⟨v,h0,hsv⟩:=of_rdN h0'
  obtain ⟨y,h1,h2⟩:=rd_run hC Hsmall (σ:=a.eval) h0 hev
  exact wpIn_value (rd_noDefer h0) h1 (hK _ _ _ _ (I.still2 P hmade hL hdst hpre (hsv _ _ h2) hm I.kq I.stage (I.actsStay2 P hL hk)))
 | make hw hk mm hmk hv hm=>
  rw [hwant,hw]
  have hfree:ρ (s.n+i)=none:=by
   cases hx:ρ (s.n+i) with
   | none=>rfl
   | some x=>have:=(I.names i hlt x hx).1; rw [hun] at this; cases this
  obtain ⟨y,w',ρ',h1,h2,h3⟩:=mk_run hC I.evo.hrel (σ:=a.eval) hmk hev hfree (Nat.le_refl (s.n+i)) (Nat.lt_succ_self _)
  rw [← hv] at h3
  refine wpIn_value (mk_noDefer hmk) h1 (hK (Nat.lor mask (one i)) ρ' _ _ ?_)
  obtain ⟨k1,k2,k3,k4,k5⟩:=I.more2 P hL hdst hpre h2.le h3
  have hJ:bit st.joined i=false:=by
   cases hb:bit st.joined i with
   | false=>rfl
   | true=>have:=I.joined i hb; rw [hun] at this; cases this
  refine ⟨k1,by simp [I.lsize],k2,I.actsStay2 P hL hk,I.kq,I.stage,I.stn,k3,k4,k5,?_,?_,fun j hj=>up j (I.joined j hj),I.dis,?_⟩
  ·refine (I.evo.trans' h2 (by omega) (by have:=I.stn; omega)).congr fun b=>?_
   rw [withMade_get hid,Tree.get_set,withMade_get hid]
   by_cases e:b=s.n+i
   ·subst e
    rw [if_pos rfl]
    have hb:Nat.ble s.n (s.n+i)=true:=by simp
    unfold ovr
    rw [hb,Nat.add_sub_cancel_left,bit_lor,bit_one,hJ,hm]
    simp
   ·rw [if_neg e]
    have:ovr (Nat.lor mask (one i)) st.joined d.made s.n b=ovr mask st.joined d.made s.n b:=by
     unfold ovr
     cases hb:Nat.ble s.n b with
     | false=>rfl
     | true=>
      have hb':s.n≤b:=by simpa using hb
      have hne:¬ i=b-s.n:=by omega
      rw [bit_lor,bit_one]
      simp [hne]
    rw [this]
  ·intro j hj x hx
   cases hρ:ρ (s.n+j) with
   | some x'=>
    obtain ⟨q1,q2⟩:=I.names j hj x' hρ
    exact ⟨up j q1,q2⟩
   | none=>
    have:=h2.new _ x hx hρ
    have e:j=i:=by omega
    subst e
    exact ⟨by rw [getD_set hi',if_pos rfl],by rw [hm]; rfl⟩
  ·intro b hb
   cases hρ:ρ' b with
   | none=>rfl
   | some x=>
    have:=h2.new _ x hρ (I.fr b hb)
    have:=I.stn
    omega
 | act hw hk=>exact absurd hk hka
theorem mO_some_append {M:List Made} {j:Nat} (h:(mO M j).isSome=true):∀ lm:List Made,(mO (lm++M) j).isSome=true
 | []=>h
 | m::lm=>by
  by_cases e:m.i=j
  ·subst e; rw [List.cons_append,mO_cons_same]; rfl
  ·rw [List.cons_append,mO_cons_ne e]; exact mO_some_append h lm
theorem walk_stages (hC:C.Ok) (P:PlanC C L p) (hg0:GRel C ρ0) {ops:Array Oper} (hops:ops.toList=L) {r:Option Nat} {N:Nat} {Q:Exit→Act→World→Prop} {K:DS→Prop}
  (hQ:∀ d tmA vA mask ρ st listed a w,K d→RecP C L p s d p.acts.length L.length tmA vA→Inv C L p s d.made d.stages.reverse vA ρ0 w0 ds mask p.acts.length ρ st listed a w→(∀ j,j<L.length→listed.getD j false=true)→Q .normal a w) :
  ∀ (fuel t:Nat) (d:DS) (tmA:Nat→Tm) (vA:Nat→V) (mask:Nat) (ρ:Ren) (st:Stage) (listed:Array Bool) (a:Act) (w:World),RecP C L p s d t L.length tmA vA→restW C p L s.n (p.acts.drop t) t d K →
   Inv C L p s d.made d.stages.reverse vA ρ0 w0 ds mask t ρ st listed a w→(∀ j,j<L.length→listed.getD j false=true→pdB C L p t L.length j=true)→unl L.length listed≤fuel →
   wpAnyIn (Wd r) N C.P .any ops Q fuel listed a w:=by
 have none:∀ (listed:Array Bool),listed.size=L.length→(∀ j,j<L.length→listed.getD j false=true)→Region.ready .any ops listed=[]:=by
  intro listed hs hall
  refine List.eq_nil_iff_forall_not_mem.2 fun i hi=>?_
  obtain ⟨hu,o,ho,_⟩:=mem_ready.1 hi
  have hL:L[i]? = some o:=by rw [← hops,Array.getElem?_toList]; exact ho
  have hlt:i<L.length:=(List.getElem?_eq_some_iff.1 hL).1
  have h1:=hall i hlt
  have hs':i<listed.size:=by omega
  have e:listed.getD i true=listed.getD i false:=by simp [hs']
  rw [e,h1] at hu; cases hu
 have all:∀ (listed:Array Bool),listed.size=L.length→Region.ready .any ops listed=[]→∀ j,j<L.length→listed.getD j false=true:=by
  intro listed hs hnil j
  induction j using Nat.strongRecOn with
  | _ j ih=>
   intro hj
   cases hu:listed.getD j false with
   | true=>rfl
   | false=>
    exfalso
    have hL:L[j]? = some L[j]:=by simp [hj]
    have hmem:j∈Region.ready .any ops listed:=by
     refine mem_ready.2 ⟨?_,L[j],by rw [← Array.getElem?_toList,hops]; exact hL,fun e he hb=>?_⟩
     ·have hs':j<listed.size:=by omega
      have e:listed.getD j true=listed.getD j false:=by simp [hs']
      rw [e]; exact hu
     ·have:=P.preds.back j _ hL e (by simpa using he) hb
      exact ih e.on this (by omega)
    rw [hnil] at hmem; cases hmem
 have fin:∀ {t:Nat} {d:DS} {tmA:Nat→Tm} {vA:Nat→V} {mask:Nat} {ρ:Ren} {st:Stage} {listed:Array Bool} {a:Act} {w:World},RecP C L p s d t L.length tmA vA→restW C p L s.n (p.acts.drop t) t d K →
   Inv C L p s d.made d.stages.reverse vA ρ0 w0 ds mask t ρ st listed a w→(∀ j,j<L.length→listed.getD j false=true)→Q .normal a w:=by
  intro t d tmA vA mask ρ st listed a w R hr I hall
  have ht:t=p.acts.length:=by
   have:=I.kq
   by_cases e:t=p.acts.length
   ·exact e
   ·exfalso
    have hlt:t<p.acts.length:=by omega
    have hx:p.acts[t]? = some p.acts[t]:=by simp
    have:=(I.acts t _ hx).1 (hall _ (P.act_lt hx))
    omega
  subst ht
  rw [List.drop_length] at hr
  exact hQ _ _ _ _ _ _ _ _ _ hr R I hall
 intro fuel
 induction fuel with
 | zero=>
  intro t d tmA vA mask ρ st listed a w R hr I hd hu
  have hall:=unl_zero (Nat.le_zero.1 hu)
  exact ⟨none listed I.lsize hall,fin R hr I hall⟩
 | succ fuel ih=>
  intro t d tmA vA mask ρ st listed a w R hr I hd hu
  refine ⟨fun hnil=>fin R hr I (all listed I.lsize hnil),fun i hi=>?_⟩
  obtain ⟨hun0,o,ho,hedges⟩:=mem_ready.1 hi
  have hL:L[i]? = some o:=by rw [← hops,Array.getElem?_toList]; exact ho
  have hlt:i<L.length:=(List.getElem?_eq_some_iff.1 hL).1
  have hi':i<listed.size:=by rw [I.lsize]; exact hlt
  have hun:listed.getD i false=false:=by
   have e:listed.getD i true=listed[i]:=by simp [hi']
   have e2:listed.getD i false=listed[i]:=by simp [hi']
   rw [e2,← e]; exact hun0
  have hpre:∀ j,bit (p.preds.getD i 0) j=true→listed.getD j false=true:=by
   intro j hj
   obtain ⟨e,e1,e2,e3⟩:=P.preds.path i o hL j hj
   have:=hedges e (by simpa using e1) e2
   rcases e3 with rfl | e3
   ·exact this
   ·exact I.down _ _ this e3
  have hless:unl L.length (listed.setIfInBounds i true)≤fuel:=by
   have:=unl_set hlt hi' hun
   omega
  by_cases hka:kindOf C o=.act
  ·-- the next act
   obtain ⟨k,hk⟩:=P.act_mem hL hka
   obtain ⟨e,_⟩:=I.actsNext2 P hk hun hi' hpre
   subst e
   have hdrop:p.acts.drop k=i::p.acts.drop (k+1):=by
    obtain ⟨h1,h2⟩:=List.getElem?_eq_some_iff.1 hk
    rw [List.drop_eq_getElem_cons h1,h2]
   rw [hdrop] at hr
   simp only [restW] at hr
   obtain ⟨o',ho',hr⟩:=of_oK hr
   rw [hL] at ho'; cases ho'
   obtain ⟨st0,hst0,hr⟩:=of_oK hr
   have hst:st0=st:=by
    have:=topStage_get hst0 R.glen
    rw [I.stage] at this; cases this; rfl
   subst hst
   have hmade:∀ m∈d.made,m.i<L.length∧m.id=s.n+m.i:=fun m hm=>⟨(R.made m hm).1,(R.made m hm).2.1⟩
   have hs:=P.stg_act hk
   have htm:=R.tmOf P hL hs (Nat.le_of_lt hlt) (.inr hka)
   have hgr:GRel C ρ:=hg0.mono I.evo.le
   have hrd:=I.reads2 P hL hun hpre htm
   have hsz:a.tmps.size=d.tm.n:=by rw [R.tmn]; exact I.tsize
   have hwant:Region.wanted o (yielded ops a.tmps)=wantedT L d.tm o:=by
    have:=wantedT_eq (ops:=ops) (tm:=d.tm) (a:=a) (o:=o) (ρ:=ρ) hsz (fun t ht=>hrd t (List.mem_append_left _ (by rw [hops] at ht; exact ht)))
    rw [hops] at this; exact this
   have hev:∀ x∈o.op.operands,∀ u,evalT C d.tm x=some u→VRel ρ u (a.eval x):=by
    intro x hx u hu
    refine evalT_rel hgr (fun t ht=>?_) hu
    subst ht
    exact hrd t (List.mem_append_right _ (opTmps_mem (by simpa using hx)))
   have Hsmall:HRel ρ (withMade (p.preds.getD i 0) st0.joined d.made st0.h) w:=I.evo.hrel.weaken (I.sub2 hmade hpre)
   have hno:=R.noact i o hL hka
   have hnext:∀ j,pdB C L p k L.length j=true→pdB C L p (k+1) 0 j=true:=by
    intro j hj
    unfold pdB at hj ⊢
    rw [Bool.or_eq_true] at hj ⊢
    left
    rcases hj with hj | hj
    ·simp at hj ⊢; omega
    ·rw [Bool.and_eq_true] at hj
     have:=hj.1
     simp at this ⊢; omega
   have go:∀ {v:V} {tm':Tm} {st':Stage} {ρ':Ren} {y:Value} {w':World},d.tm.put o.dst v=some tm'→stillW C p L d.made (k+1) st' d.rds →
     passW C p L s.n (k+1) L 0 { d with tm:=tm',stages:=st'::d.stages } (fun d=>restW C p L s.n (p.acts.drop (k+1)) (k+1) d K) →
     (∀ vA':Nat→V,vA' i=v→(∀ j,j≠i→vA' j=vA j)→Inv C L p s d.made (st'::d.stages).reverse vA' ρ0 w0 ds (Nat.lor mask (one i)) (k+1) ρ' st' (listed.setIfInBounds i true) (a.put o.dst y) w') →
     wpAnyIn (Wd r) N C.P .any ops Q fuel (listed.setIfInBounds i true) (a.put o.dst y) w':=by
    intro v tm' st' ρ' y w' hput hstill hpass hI
    have I2:=hI (upd vA i v) (upd_same _ _ _) (fun j hj=>upd_ne _ _ hj)
    have R2:=R.next P hk hL hput hstill
    obtain ⟨d',tmA',vA',k1,k2,k3,k4,lm,k5,k6⟩:=passW_facts P L [] 0 _ _ _ rfl rfl hpass R2
    have hl2:∀ j,j<L.length→(listed.setIfInBounds i true).getD j false=true→pdB C L p (k+1) 0 j=true:=by
     intro j hj hlj
     rw [getD_set hi'] at hlj
     by_cases e:j=i
     ·subst e; rw [pdB_eq hL]; left; omega
     ·rw [if_neg e] at hlj; exact hnext j (hd j hj hlj)
    have szl:∀ j,(listed.setIfInBounds i true).getD j false=true→j<L.length:=by
     intro j hj
     apply Nat.lt_of_not_le
     intro hle
     have:(listed.setIfInBounds i true).getD j false=false:=by
      have h1:(listed.setIfInBounds i true).size≤j:=by simp [I.lsize]; exact hle
      have h2:¬ j<(listed.setIfInBounds i true).size:=by omega
      unfold Array.getD
      rw [dif_neg h2]
     rw [this] at hj; cases hj
    have I3:Inv C L p s d'.made d'.stages.reverse vA' ρ0 w0 ds (Nat.lor mask (one i)) (k+1) ρ' st' (listed.setIfInBounds i true) (a.put o.dst y) w':=by
     refine I2.change (fun j hj=>k3 j (hl2 j (szl j hj) hj)) (by rw [k4]; exact I2.stage) (fun J b=>?_) (fun j hj=>by rw [k5]; exact mO_some_append hj lm)
     rw [k5]
     refine congrArg (fun h=>Tree.get h b) (withMade_append fun m hm=>?_)
     cases hb:bit (Nat.lor mask (one i)) m.i with
     | false=>rfl
     | true=>
      rw [I2.masked] at hb
      have:=hl2 m.i (szl _ hb) hb
      rw [k6 m hm] at this; cases this
    refine ih (k+1) d' tmA' vA' _ _ _ _ _ _ k2 k1 I3 (fun j hj hlj=>?_) hless
    have:=hl2 j hj hlj
    have hLj:L[j]? = some L[j]:=by simp [hj]
    rw [pdB_eq hLj] at this ⊢
    omega
   cases hw:wantedT L d.tm o with
   | false=>
    rw [hw] at hr
    simp only [cond_false] at hr
    obtain ⟨tm',hput,hstill,hpass⟩:=of_oK hr
    unfold wpOpIn
    simp only [ho]
    rw [hwant,hw]
    refine ⟨about_wd r C.P w o a,?_⟩
    obtain ⟨p1,p2,p3⟩:=Tm.put_get hput
    rw [R.tmn] at p3
    refine go (v:=undefV) hput hstill hpass (ρ':=ρ) fun vA' h1 h2=>?_
    have hlen:k+1≤p.acts.length:=(List.getElem?_eq_some_iff.1 hk).1
    have I':Inv C L p s d.made (st0::d.stages).reverse vA' ρ0 w0 ds mask k ρ st0 listed a w:=by
     refine I.change (fun j hj=>h2 j (by rintro rfl; rw [hun] at hj; cases hj)) ?_ (fun _ _=>rfl) (fun _ h=>h)
     rw [List.reverse_cons,List.getElem?_append_left (by simp [R.glen])]; exact I.stage
    exact I'.still2 P hmade hL p3 hpre (by rw [h1]; exact .s _) hno hlen (topStage_get rfl (by simp [R.glen])) (I'.actsNext2 P hk hun hi' hpre).2
   | true=>
    rw [hw] at hr
    simp only [cond_true] at hr
    have hact:=actW_sound hC hr
    unfold wpOpIn
    simp only [ho]
    rw [hwant,hw]
    refine hact ρ a w r hev Hsmall I.fr hgr N _ Q fun ρ' y w' v h' n' hk' ev hy=>?_
    obtain ⟨tm',hput,hstill,hpass⟩:=of_oK hk'
    obtain ⟨p1,p2,p3⟩:=Tm.put_get hput
    rw [R.tmn] at p3
    refine go hput hstill hpass (ρ':=ρ') fun vA' h1 h2=>?_
    have I':Inv C L p s d.made ({ h:=h',joined:=joinMade (p.preds.getD i 0) d.made st0.joined,n:=n' }::d.stages).reverse vA' ρ0 w0 ds mask k ρ st0 listed a w:=by
     refine I.change (fun j hj=>h2 j (by rintro rfl; rw [hun] at hj; cases hj)) ?_ (fun _ _=>rfl) (fun _ h=>h)
     rw [List.reverse_cons,List.getElem?_append_left (by simp [R.glen])]; exact I.stage
    exact I'.acted P hmade hL hk p3 hun hpre ev (by rw [h1]; exact hy) rfl hno (topStage_get rfl (by simp [R.glen]))
  ·-- no act: it is done already
   have hdone:pdB C L p t L.length i=true:=by
    rw [pdB_eq hL]
    have:stg p i≤t:=countIn_le fun t' x h1 h2=>(I.acts t' x h1).1 (hpre x h2)
    rcases Nat.lt_or_eq_of_le this with h | h
    ·exact .inl h
    ·exact .inr ⟨h,hlt,hka⟩
   refine step_plain hC P R hg0 I hops hL hka hdone hun hpre fun mask' ρ' a' w' I'=>ih t d tmA vA _ _ _ _ _ _ R hr I' (fun j hj hlj=>?_) hless
   rw [getD_set hi'] at hlj
   by_cases e:j=i
   ·subst e; exact hdone
   ·rw [if_neg e] at hlj; exact hd j hj hlj
end
def regionS (C:Ctx) (ops:List Oper) (s:St) (Q:X→St→Prop):Prop:=
 oK (planOf C ops) fun p=>
  passW C p ops s.n 0 ops 0 { tm:=s.tm,stages:=[{ h:=s.h,joined:=0,n:=s.n+ops.length }],made:=[],rds:=[] } fun d=>
   restW C p ops s.n p.acts 0 d fun d=>
    oK (topStage d.stages) fun t=>Q .normal { tm:=d.tm,h:=withMade (one ops.length-1) t.joined d.made t.h,n:=t.n,defs:=s.defs }
theorem RecP.start (C:Ctx) (L:List Oper) (p:Plan) (s:St):RecP C L p s { tm:=s.tm,stages:=[{ h:=s.h,joined:=0,n:=s.n+L.length }],made:=[],rds:=[] } 0 0 (fun _=>s.tm) (fun _=>undefV):=by
 have hn:∀ j,pdB C L p 0 0 j=false:=by intro j; simp [pdB]
 refine ⟨rfl,fun x=>?_,fun j o _ h=>(by rw [hn] at h; cases h),fun j o _ h=>(by rw [hn] at h; cases h),fun j o _ h=>(by rw [hn] at h; cases h),by simp,fun j o _ _=>rfl,rfl,rfl,by simp⟩
 unfold cur
 split
 ·simp only [hn]; rfl
 ·rfl
theorem regionS_sound (hC:C.Ok) (hmix:C.P.follows .mixedOrders=true) {id:Nat} {ops:Array Oper} {s:St} {Q:X→St→Prop} (hw:regionS C ops.toList s Q) (rnd:Option Nat):CodeK C rnd (.region id ops true) s Q:=by
 obtain ⟨p,hp,hw⟩:=of_oK hw
 have P:=planOf_close hp
 obtain ⟨d,tmA,vA,hrest,R,_,hst,lm,hmd,_⟩:=passW_facts P ops.toList [] 0 _ _ _ rfl rfl hw (RecP.start C ops.toList p s)
 have hlen:ops.toList.length=ops.size:=by simp
 intro ρ a w r S hr N
 refine wpIn_region_any hmix ?_
 have hrep:∀ j,(Array.replicate ops.size false).getD j false=false:=by intro j; simp [Array.getElem?_replicate]; split <;> rfl
 refine walk_stages (ρ0:=ρ) (w0:=w.drew) (ds:=a.defers) hC P S.glob rfl (K:=fun d=>oK (topStage d.stages) fun t=>Q .normal { tm:=d.tm,h:=withMade (one ops.toList.length-1) t.joined d.made t.h,n:=t.n,defs:=s.defs }) ?_ ops.size 0 d tmA vA 0 ρ { h:=s.h,joined:=0,n:=s.n+ops.size } (Array.replicate ops.size false) a w.drew R (by simpa using hrest) ?_ ?_ ?_
 ·intro d tmA vA mask ρ' st listed a' w' hK R I hall
  obtain ⟨t,ht,hQ⟩:=of_oK hK
  have hmade:∀ m∈d.made,m.i<ops.toList.length∧m.id=s.n+m.i:=fun m hm=>⟨(R.made m hm).1,(R.made m hm).2.1⟩
  have hid:∀ m∈d.made,m.id=s.n+m.i:=fun m hm=>(hmade m hm).2
  have hmlt:∀ m∈d.made,m.i<ops.toList.length:=fun m hm=>(hmade m hm).1
  have hstt:st=t:=by
   have:=topStage_get ht R.glen
   rw [I.stage] at this; cases this; rfl
  subst hstt
  refine ⟨_,_,hQ,?_⟩
  have hevo:Evo ρ s.h s.n w ρ' (withMade (one ops.toList.length-1) st.joined d.made st.h) st.n w':=by
   refine ((Evo.drew S.heap s.n).trans I.evo).congr fun b=>?_
   rw [withMade_get hid,withMade_get hid]
   have:ovr (one ops.toList.length-1) st.joined d.made s.n b=ovr mask st.joined d.made s.n b:=by
    unfold ovr
    cases ho:mO d.made (b-s.n) with
    | none=>
     cases (Nat.ble s.n b && (bit (one ops.toList.length-1) (b-s.n) && !bit st.joined (b-s.n))) <;> cases (Nat.ble s.n b && (bit mask (b-s.n) && !bit st.joined (b-s.n))) <;> rfl
    | some o=>
     have hlt:=mO_lt hmlt ho
     rw [bit_all (by omega),I.masked,hall _ hlt]
   rw [this]
  refine ⟨rfl,ρ',hevo,⟨?_,hevo.hrel,I.fr,S.glob.mono hevo.le,by rw [I.defs]; exact S.defs.mono hevo.le⟩⟩
  refine ⟨by rw [I.tsize,R.tmn],fun x=>?_⟩
  have:d.tm.get x=cur ops.toList s vA (fun q=>listed.getD q false) x:=by
   rw [R.tmg]
   unfold cur
   split
   ·rename_i q hq
    obtain ⟨q',o',e1,e2,_⟩:=writer_some hq
    have:q'=q:=by omega
    subst this
    have hlt:=(List.getElem?_eq_some_iff.1 e2).1
    have hdn:pdB C ops.toList p p.acts.length ops.toList.length q'=true:=by
     rw [pdB_eq e2]
     by_cases ha:kindOf C o'=.act
     ·obtain ⟨k,hk⟩:=P.act_mem e2 ha
      left; rw [P.stg_act hk]; exact (List.getElem?_eq_some_iff.1 hk).1
     ·have:stg p q'≤p.acts.length:=countIn_le fun t x h1 _=>(List.getElem?_eq_some_iff.1 h1).1
      rcases Nat.lt_or_eq_of_le this with h | h
      ·exact .inl h
      ·exact .inr ⟨h,hlt,ha⟩
    show (bif pdB C ops.toList p p.acts.length ops.toList.length q' then vA q' else s.tm.get x)=bif listed.getD q' false then vA q' else s.tm.get x
    rw [hdn,hall q' hlt]
   ·rfl
  show VRel ρ' (d.tm.get x) _
  rw [this]; exact I.tm x
 ·refine ⟨fun j=>(by rw [bit_zero,hrep]),by simp,fun i j h=>(by rw [hrep] at h; cases h),fun x y _=>(by rw [hrep]; simp),Nat.zero_le _,by rw [← hlen]; exact R.g0,by rw [hlen]; exact Nat.le_refl _,
   S.tm.size,fun x=>?_,rfl,?_,fun j hj x hx=>?_,fun j h=>(by rw [bit_zero] at h; cases h),fun j hj _=>?_,fun b hb=>S.fr b (by simp at hb; omega)⟩
  ·have:cur ops.toList s vA (fun q=>(Array.replicate ops.size false).getD q false) x=s.tm.get x:=by
    unfold cur
    split
    ·simp only [hrep]; rfl
    ·rfl
   rw [this]; exact S.tm.get x
  ·refine ((Evo.refl s.n (S.heap.drew)).congr fun b=>?_).bump (Nat.le_add_right _ _)
   rw [withMade_get (fun m hm=>(R.made m hm).2.1)]
   unfold ovr
   rw [bit_zero]
   simp
  ·rw [S.fr _ (Nat.le_add_right _ _)] at hx; cases hx
  ·show s.h.get (s.n+j)=none
   cases hx:s.h.get (s.n+j) with
   | none=>rfl
   | some o=>
    obtain ⟨c,sh,ex,x,q1,_⟩:=S.heap.obj _ o hx
    rw [S.fr _ (Nat.le_add_right _ _)] at q1; cases q1
 ·intro j _ h
  rw [hrep] at h; cases h
 ·unfold unl
  exact Nat.le_trans (List.countP_le_length) (by simp)
end Go.Ev
end
