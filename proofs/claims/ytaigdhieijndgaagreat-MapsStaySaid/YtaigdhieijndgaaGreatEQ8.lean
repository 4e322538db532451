import Derived.Test.YtaigdhieijndgaaGreatEQ7
section
namespace Go.Ev
variable {C:Ctx}
theorem Tm.put_get {tm tm':Tm} {dst:Option Tmp} {v:V} (h:tm.put dst v=some tm') :
  tm'.n=tm.n∧(∀ t,tm'.get t=if dst=some t then v else tm.get t)∧∀ d,dst=some d→d<tm.n:=by
 unfold Tm.put at h
 cases dst with
 | none=>cases h; exact ⟨rfl,fun t=>by simp,by simp⟩
 | some d=>
  replace h:=of_cond_some h
  obtain ⟨hlt,h⟩:=h
  cases h
  refine ⟨rfl,fun t=>?_,fun d' e=>by cases e; simpa using hlt⟩
  simp only [Tm.get,Tree.get_set,Option.some.injEq]
  by_cases e:t=d
  ·subst e; simp
  ·rw [if_neg e,if_neg (fun x=>e x.symm)]
def cur (L:List Oper) (s:St) (vA:Nat→V) (S:Nat→Bool) (t:Tmp):V:=
 match writer t L 0 with
 | some q=>bif S q then vA q else s.tm.get t
 | none=>s.tm.get t
structure Reg (C:Ctx) (L:List Oper) (p:Plan) (s:St) (M:List Made) (G:List Stage) (R:List Rd) (tmA:Nat→Tm) (vA:Nat→V):Prop where
 plan:PlanOk C L p
 t0:tmA 0=s.tm
 puts:∀ (j:Nat) (o:Oper),L[j]? = some o→(tmA j).put o.dst (vA j)=some (tmA (j+1))
 facts:∀ (j:Nat) (o:Oper),L[j]? = some o→∃ t,(kindOf C o=.act→p.acts[t]? = some j)∧OpFact C p L s.n M G R j t o (tmA j) (vA j)
 made:∀ m∈M,m.i<L.length∧m.id=s.n+m.i
 glen:G.length=p.acts.length+1
 g0:G[0]? = some { h:=s.h,joined:=0,n:=s.n+L.length }
 reads:∀ r∈R,∀ k st,G[k]? = some st→countIn (p.preds.getD r.i 0) p.acts≤k→k≤countNotAhead p.preds r.i p.acts →
  ∃ v,rd C (evalT C r.tm) r.o (withMade (p.preds.getD r.i 0) st.joined M st.h)=some v∧∀ (ρ:Ren) (y:Value),VRel ρ v y→VRel ρ r.v y
section
variable {L:List Oper} {p:Plan} {s:St} {M:List Made} {G:List Stage} {R:List Rd} {tmA:Nat→Tm} {vA:Nat→V}
theorem Reg.tm_get (g:Reg C L p s M G R tmA vA):∀ j,j≤L.length→(tmA j).n=s.tm.n∧∀ t,(tmA j).get t=cur L s vA (fun q=>Nat.blt q j) t:=by
 intro j
 induction j with
 | zero=>
  intro _
  rw [g.t0]
  refine ⟨rfl,fun t=>?_⟩
  unfold cur
  split
  ·rename_i q _
   show s.tm.get t=bif Nat.blt q 0 then vA q else s.tm.get t
   rw [show Nat.blt q 0=false from by simp]; rfl
  ·rfl
 | succ j ih=>
  intro hj
  obtain ⟨h1,h2⟩:=ih (by omega)
  have hL:L[j]? = some L[j]:=by simp [show j<L.length from hj]
  obtain ⟨k1,k2,_⟩:=Tm.put_get (g.puts j _ hL)
  refine ⟨k1.trans h1,fun t=>?_⟩
  rw [k2,h2]
  unfold cur
  by_cases e:L[j].dst=some t
  ·rw [if_pos e,writer_of g.plan.once hL e]
   simp only
   rw [show Nat.blt j (j+1)=true from by simp]; rfl
  ·rw [if_neg e]
   split
   ·rename_i q hq
    have hne:q≠j:=by
     rintro rfl
     obtain ⟨q',o',e1,e2,e3⟩:=writer_some hq
     have:q'=q:=by omega
     subst this
     rw [hL] at e2; cases e2
     exact e e3
    have:Nat.blt q j=Nat.blt q (j+1):=by
     rw [Bool.eq_iff_iff]; simp; omega
    show (bif Nat.blt q j then vA q else s.tm.get t)=bif Nat.blt q (j+1) then vA q else s.tm.get t
    rw [this]
   ·rfl
structure Inv (C:Ctx) (L:List Oper) (p:Plan) (s:St) (M:List Made) (G:List Stage) (vA:Nat→V) (ρ0:Ren) (w0:World) (ds:List Deferred)
  (mask k:Nat) (ρ:Ren) (st:Stage) (listed:Array Bool) (a:Act) (w:World):Prop where
 masked:∀ j,bit mask j=listed.getD j false
 lsize:listed.size=L.length
 down:∀ i j,listed.getD i false=true→bit (p.preds.getD i 0) j=true→listed.getD j false=true
 acts:∀ t x,p.acts[t]? = some x→(listed.getD x false=true↔t<k)
 kq:k≤p.acts.length
 stage:G[k]? = some st
 stn:s.n+L.length≤st.n
 tsize:a.tmps.size=s.tm.n
 tm:∀ t,VRel ρ (cur L s vA (fun q=>listed.getD q false) t) (a.tmps.getD t undef)
 defs:a.defers=ds
 evo:Evo ρ0 s.h s.n w0 ρ (withMade mask st.joined M st.h) st.n w
 names:∀ j,j<L.length→∀ x,ρ (s.n+j)=some x→listed.getD j false=true∧(mO M j).isSome=true
 joined:∀ j,bit st.joined j=true→listed.getD j false=true
 dis:∀ j,j<L.length→bit st.joined j=false→st.h.get (s.n+j)=none
 fr:Fr ρ st.n
variable {ρ0:Ren} {w0:World} {ds:List Deferred} {mask k:Nat} {ρ:Ren} {st:Stage} {listed:Array Bool} {a:Act} {w:World}
theorem getD_set {listed:Array Bool} {i:Nat} (hi:i<listed.size) (j:Nat):(listed.setIfInBounds i true).getD j false=if j=i then true else listed.getD j false:=by
 by_cases e:j=i
 ·subst e; simp [hi]
 ·rw [if_neg e]
  simp [Array.getElem?_setIfInBounds_ne (fun x=>e x.symm)]
theorem Inv.more (g:Reg C L p s M G R tmA vA) (I:Inv C L p s M G vA ρ0 w0 ds mask k ρ st listed a w) {i:Nat} {o:Oper} (hL:L[i]? = some o)
  (hun:listed.getD i false=false) (hpre:∀ j,bit (p.preds.getD i 0) j=true→listed.getD j false=true) {ρ':Ren} (hle:ρ.le ρ') {y:Value} (hy:VRel ρ' (vA i) y) :
  (∀ j,bit (Nat.lor mask (one i)) j=(listed.setIfInBounds i true).getD j false) ∧
  (∀ i' j,(listed.setIfInBounds i true).getD i' false=true→bit (p.preds.getD i' 0) j=true→(listed.setIfInBounds i true).getD j false=true) ∧
  (a.put o.dst y).tmps.size=s.tm.n∧(∀ t,VRel ρ' (cur L s vA (fun q=>(listed.setIfInBounds i true).getD q false) t) ((a.put o.dst y).tmps.getD t undef))∧(a.put o.dst y).defers=ds:=by
 have hi:i<L.length:=(List.getElem?_eq_some_iff.1 hL).1
 have hi':i<listed.size:=by rw [I.lsize]; exact hi
 have hd:=getD_set hi'
 refine ⟨?_,?_,?_,?_,?_⟩
 ·intro j
  rw [bit_lor,bit_one,hd,I.masked]
  by_cases e:j=i
  ·subst e; simp
  ·rw [if_neg e]
   have:¬ i=j:=fun x=>e x.symm
   simp [this]
 ·intro i' j h1 h2
  rw [hd] at h1 ⊢
  by_cases e:j=i
  ·rw [if_pos e]
  ·rw [if_neg e]
   by_cases e':i'=i
   ·subst e'; exact hpre j h2
   ·rw [if_neg e'] at h1; exact I.down i' j h1 h2
 ·cases hdst:o.dst with
  | none=>exact I.tsize
  | some d=>simp [Act.put,I.tsize]
 ·intro t
  by_cases e:o.dst=some t
  ·have hw:=writer_of g.plan.once hL e
   have:cur L s vA (fun q=>(listed.setIfInBounds i true).getD q false) t=vA i:=by
    unfold cur; rw [hw]; simp only; rw [hd,if_pos rfl]; rfl
   rw [this,e]
   have ht:t<a.tmps.size:=by
    have:=(Tm.put_get (g.puts i o hL)).2.2 t e
    rw [I.tsize,← (g.tm_get i (by omega)).1]; exact this
   simp only [Act.put]
   have:(a.tmps.setIfInBounds t y).getD t undef=y:=by simp [ht]
   rw [this]; exact hy
  ·have e1:cur L s vA (fun q=>(listed.setIfInBounds i true).getD q false) t=cur L s vA (fun q=>listed.getD q false) t:=by
    unfold cur
    split
    ·rename_i q hq
     have hne:q≠i:=by
      rintro rfl
      obtain ⟨q',o',e1,e2,e3⟩:=writer_some hq
      have:q'=q:=by omega
      subst this
      rw [hL] at e2; cases e2
      exact e e3
     simp only [hd,if_neg hne]
    ·rfl
   have e2:(a.put o.dst y).tmps.getD t undef=a.tmps.getD t undef:=by
    cases hdst:o.dst with
    | none=>rfl
    | some d=>
     have:d≠t:=by rintro rfl; exact e hdst
     simp [Act.put,Array.getElem?_setIfInBounds_ne this]
   rw [e1,e2]; exact (I.tm t).mono hle
 ·cases hdst:o.dst with
  | none=>exact I.defs
  | some d=>exact I.defs
theorem Inv.actsStay (g:Reg C L p s M G R tmA vA) (I:Inv C L p s M G vA ρ0 w0 ds mask k ρ st listed a w) {i:Nat} {o:Oper} (hL:L[i]? = some o) (hk:kindOf C o≠.act) :
  ∀ t x,p.acts[t]? = some x→((listed.setIfInBounds i true).getD x false=true↔t<k):=by
 intro t x hx
 have hi':i<listed.size:=by rw [I.lsize]; exact (List.getElem?_eq_some_iff.1 hL).1
 have hne:x≠i:=by
  rintro rfl
  have:=List.mem_of_getElem? hx
  rw [g.plan.acts] at this
  obtain ⟨q,o',e1,e2,e3⟩:=actsOf_mem.1 this
  have:q=x:=by omega
  subst this
  rw [hL] at e2; cases e2; exact hk e3
 rw [getD_set hi',if_neg hne]
 exact I.acts t x hx
theorem Inv.actsNext (g:Reg C L p s M G R tmA vA) (I:Inv C L p s M G vA ρ0 w0 ds mask k ρ st listed a w) {i t:Nat} (ht:p.acts[t]? = some i) (hun:listed.getD i false=false) (hi':i<listed.size)
  (hpre:∀ j,bit (p.preds.getD i 0) j=true→listed.getD j false=true) :
  t=k∧∀ t' x,p.acts[t']? = some x→((listed.setIfInBounds i true).getD x false=true↔t' < k+1):=by
 have h1:¬ t<k:=by intro h; rw [(I.acts t i ht).2 h] at hun; cases hun
 have h2:t=k:=by
  by_cases h0:t=0
  ·omega
  ·have hlt:=(List.getElem?_eq_some_iff.1 ht).1
   have hx:p.acts[t-1]? = some p.acts[t-1]:=by simp
   have:=g.plan.chain (t-1) _ i hx (by rw [show t-1+1=t from by omega]; exact ht)
   have:=(I.acts (t-1) _ hx).1 (hpre _ this)
   omega
 subst h2
 refine ⟨rfl,fun t' x hx=>?_⟩
 rw [getD_set hi']
 by_cases e:x=i
 ·rw [if_pos e]
  subst e
  have:t'=t:=by
   have hs:=(actsOf_sorted (C:=C) L 0).1
   rw [← g.plan.acts] at hs
   obtain ⟨l1,e1⟩:=List.getElem?_eq_some_iff.1 ht
   obtain ⟨l2,e2⟩:=List.getElem?_eq_some_iff.1 hx
   have hp:=List.pairwise_iff_getElem.1 hs
   rcases Nat.lt_trichotomy t t' with h | h | h
   ·have:=hp t t' l1 l2 h; omega
   ·exact h.symm
   ·have:=hp t' t l2 l1 h; omega
  simp; omega
 ·rw [if_neg e,I.acts t' x hx]
  constructor
  ·omega
  ·intro h
   by_cases e':t'=t
   ·subst e'; rw [ht] at hx; cases hx; exact absurd rfl e
   ·omega
theorem Inv.sub (g:Reg C L p s M G R tmA vA) (I:Inv C L p s M G vA ρ0 w0 ds mask k ρ st listed a w) {pre:Nat} (hpre:∀ j,bit pre j=true→listed.getD j false=true) :
  ∀ b o,(withMade pre st.joined M st.h).get b=some o→(withMade mask st.joined M st.h).get b=some o:=by
 have hid:∀ m∈M,m.id=s.n+m.i:=fun m hm=>(g.made m hm).2
 have hlt:∀ m∈M,m.i<L.length:=fun m hm=>(g.made m hm).1
 intro b o
 rw [withMade_get hid,withMade_get hid]
 unfold ovr
 cases hb:Nat.ble s.n b with
 | false=>simp
 | true=>
  have hb':s.n≤b:=by simpa using hb
  simp only [Bool.true_and]
  cases hJ:bit st.joined (b-s.n) with
  | true=>simp
  | false=>
   simp only [Bool.not_false,Bool.and_true]
   cases hp:bit pre (b-s.n) with
   | true=>
    have:bit mask (b-s.n)=true:=by rw [I.masked]; exact hpre _ hp
    rw [this]; exact id
   | false=>
    simp only [cond_false,Option.none_or]
    intro h
    cases hm:bit mask (b-s.n) with
    | false=>simpa using h
    | true=>
     simp only [cond_true]
     cases ho:mO M (b-s.n) with
     | none=>simpa using h
     | some o'=>
      have:=I.dis (b-s.n) (mO_lt hlt ho) hJ
      rw [show s.n+(b-s.n)=b from by omega,h] at this
      cases this
theorem ovr_more {i:Nat} {J b:Nat} (hm:mO M i=none):ovr (Nat.lor mask (one i)) J M s.n b=ovr mask J M s.n b:=by
 unfold ovr
 rw [bit_lor,bit_one]
 by_cases e:i=b-s.n
 ·subst e
  rw [hm]
  cases (Nat.ble s.n b && ((bit mask (b-s.n) || decide (b-s.n=b-s.n)) && !bit J (b-s.n))) <;> cases (Nat.ble s.n b && (bit mask (b-s.n) && !bit J (b-s.n))) <;> rfl
 ·simp [e]
theorem Inv.still (g:Reg C L p s M G R tmA vA) (I:Inv C L p s M G vA ρ0 w0 ds mask k ρ st listed a w) {i:Nat} {o:Oper} (hL:L[i]? = some o)
  (hun:listed.getD i false=false) (hpre:∀ j,bit (p.preds.getD i 0) j=true→listed.getD j false=true) {y:Value} (hy:VRel ρ (vA i) y) (hm:mO M i=none)
  {k':Nat} (hk':k'≤p.acts.length) (hst:G[k']? = some st) (hacts:∀ t x,p.acts[t]? = some x→((listed.setIfInBounds i true).getD x false=true↔t<k')) :
  Inv C L p s M G vA ρ0 w0 ds (Nat.lor mask (one i)) k' ρ st (listed.setIfInBounds i true) (a.put o.dst y) w:=by
 obtain ⟨h1,h2,h3,h4,h5⟩:=I.more g hL hun hpre (Ren.le_refl ρ) hy
 have hi':i<listed.size:=by rw [I.lsize]; exact (List.getElem?_eq_some_iff.1 hL).1
 have hid:∀ m∈M,m.id=s.n+m.i:=fun m hm=>(g.made m hm).2
 have up:∀ j,listed.getD j false=true→(listed.setIfInBounds i true).getD j false=true:=fun j hj=>by rw [getD_set hi']; split <;> simp_all
 refine ⟨h1,by simp [I.lsize],h2,hacts,hk',hst,I.stn,h3,h4,h5,I.evo.congr fun b=>?_,fun j hj x hx=>?_,fun j hj=>up j (I.joined j hj),I.dis,I.fr⟩
 ·rw [withMade_get hid,withMade_get hid,ovr_more hm]
 ·obtain ⟨k1,k2⟩:=I.names j hj x hx
  exact ⟨up j k1,k2⟩
end
end Go.Ev
end
section
namespace Go.Ev
variable {C:Ctx}
theorem HRel.leaf (ρ:Ren) (w:World):HRel ρ .leaf w:=⟨fun b o h=>by simp [Tree.get] at h,fun b b' o o' x x' h=>by simp [Tree.get] at h⟩
section
variable {L:List Oper} {p:Plan} {s:St} {M:List Made} {G:List Stage} {R:List Rd} {tmA:Nat→Tm} {vA:Nat→V}
variable {ρ0:Ren} {w0:World} {ds:List Deferred} {mask k:Nat} {ρ:Ren} {st:Stage} {listed:Array Bool} {a:Act} {w:World}
theorem Inv.reads (g:Reg C L p s M G R tmA vA) (I:Inv C L p s M G vA ρ0 w0 ds mask k ρ st listed a w) {i:Nat} {o:Oper} (hL:L[i]? = some o)
  (hun:listed.getD i false=false) (hpre:∀ j,bit (p.preds.getD i 0) j=true→listed.getD j false=true) :
  ∀ t,t∈guardTmps L o++opTmps o.op.operands.toList→VRel ρ ((tmA i).get t) (a.tmps.getD t undef):=by
 intro t ht
 have hi:i<L.length:=(List.getElem?_eq_some_iff.1 hL).1
 have e:(tmA i).get t=cur L s vA (fun q=>listed.getD q false) t:=by
  rw [(g.tm_get i (by omega)).2]
  unfold cur
  split
  ·rename_i q hq
   obtain ⟨h1,h2⟩:=g.plan.reads i o hL t ht q hq
   have:Nat.blt q i=listed.getD q false:=by
    rcases Nat.lt_trichotomy q i with h | h | h
    ·rw [hpre q (h1 h)]; simpa using h
    ·subst h; rw [hun]; simp
    ·have:Nat.blt q i=false:=by simp; omega
     rw [this]
     cases hl:listed.getD q false with
     | false=>rfl
     | true=>rw [I.down q i hl (h2 h)] at hun; cases hun
   show (bif Nat.blt q i then vA q else s.tm.get t)=bif listed.getD q false then vA q else s.tm.get t
   rw [this]
  ·rfl
 rw [e]; exact I.tm t
theorem region_step (hC:C.Ok) (g:Reg C L p s M G R tmA vA) (hg0:GRel C ρ0) (I:Inv C L p s M G vA ρ0 w0 ds mask k ρ st listed a w) {ops:Array Oper} (hops:ops.toList=L)
  {i:Nat} (hi:i∈Region.ready .any ops listed) {r:Option Nat} {N:Nat} {Q:Exit→Act→World→Prop} {K:Act→World→Prop}
  (hK:∀ mask' k' ρ' st' a' w',Inv C L p s M G vA ρ0 w0 ds mask' k' ρ' st' (listed.setIfInBounds i true) a' w'→K a' w'):wpOpIn (Wd r) N C.P ops Q i K a w:=by
 obtain ⟨hun0,o,ho,hedges⟩:=mem_ready.1 hi
 have hL:L[i]? = some o:=by rw [← hops,Array.getElem?_toList]; exact ho
 have hlt:i<L.length:=(List.getElem?_eq_some_iff.1 hL).1
 have hi':i<listed.size:=by rw [I.lsize]; exact hlt
 have hun:listed.getD i false=false:=by
  have e:listed.getD i true=listed[i]:=by simp [hi']
  have e2:listed.getD i false=listed[i]:=by simp [hi']
  rw [e2,← e]; exact hun0
 have hpre:∀ j,bit (p.preds.getD i 0) j=true→listed.getD j false=true:=by
  intro j hj
  obtain ⟨e,e1,e2,e3⟩:=g.plan.preds.path i o hL j hj
  have:=hedges e (by simpa using e1) e2
  rcases e3 with rfl | e3
  ·exact this
  ·exact I.down _ _ this e3
 have hle0:ρ0.le ρ:=I.evo.le
 have hgr:GRel C ρ:=hg0.mono hle0
 have hrd:=I.reads g hL hun hpre
 have hsz:a.tmps.size=(tmA i).n:=by rw [(g.tm_get i (by omega)).1]; exact I.tsize
 have hwant:Region.wanted o (yielded ops a.tmps)=wantedT L (tmA i) o:=by
  have:=wantedT_eq (ops:=ops) (tm:=tmA i) (a:=a) (o:=o) (ρ:=ρ) hsz (fun t ht=>hrd t (List.mem_append_left _ (by rw [hops] at ht; exact ht)))
  rw [hops] at this; exact this
 have hev:∀ x∈o.op.operands,∀ u,evalT C (tmA i) x=some u→VRel ρ u (a.eval x):=by
  intro x hx u hu
  refine evalT_rel hgr (fun t ht=>?_) hu
  subst ht
  exact hrd t (List.mem_append_right _ (opTmps_mem (by simpa using hx)))
 have hid:∀ m∈M,m.id=s.n+m.i:=fun m hm=>(g.made m hm).2
 have hmlt:∀ m∈M,m.i<L.length:=fun m hm=>(g.made m hm).1
 have up:∀ j,listed.getD j false=true→(listed.setIfInBounds i true).getD j false=true:=fun j hj=>by rw [getD_set hi']; split <;> simp_all
 have Hsmall:HRel ρ (withMade (p.preds.getD i 0) st.joined M st.h) w:=I.evo.hrel.weaken (I.sub g hpre)
 unfold wpOpIn
 simp only [ho]
 obtain ⟨t,hact,hf⟩:=g.facts i o hL
 cases hf with
 | skip hw hv hm hk=>
  rw [hwant,hw]
  refine ⟨about_wd r C.P w o a,?_⟩
  have hy:VRel ρ (vA i) undef:=by rw [hv]; exact .s _
  by_cases hka:kindOf C o=.act
  ·obtain ⟨e,hn⟩:=I.actsNext g (hact hka) hun hi' hpre
   subst e
   obtain ⟨st0,k1,k2⟩:=hk.resolve_left (fun x=>x hka)
   rw [I.stage] at k1; cases k1
   have hlen:t+1≤p.acts.length:=(List.getElem?_eq_some_iff.1 (hact hka)).1
   exact hK _ _ _ _ _ _ (I.still g hL hun hpre hy hm hlen k2 hn)
  ·exact hK _ _ _ _ _ _ (I.still g hL hun hpre hy hm I.kq I.stage (I.actsStay g hL hka))
 | quiet hw hk hr hm=>
  rw [hwant,hw]
  obtain ⟨v0,hr,hv0⟩:=hr
  obtain ⟨y,h1,h2⟩:=rd_run hC (HRel.leaf ρ w) (σ:=a.eval) hr hev
  exact wpIn_value (rd_noDefer hr) h1 (hK _ _ _ _ _ _ (I.still g hL hun hpre (hv0 _ _ h2) hm I.kq I.stage (I.actsStay g hL hk)))
 | read hw hk hr hm=>
  rw [hwant,hw]
  obtain ⟨v,h0,hs⟩:=g.reads _ hr k st I.stage (countIn_le fun t x h1 h2=>(I.acts t x h1).1 (hpre x h2))
   (le_countNotAhead I.kq fun t x h1 h2=>by
    cases hb:bit (p.preds.getD x 0) i with
    | false=>rfl
    | true=>rw [I.down x i ((I.acts t x h2).2 h1) hb] at hun; cases hun)
  obtain ⟨y,h1,h2⟩:=rd_run hC Hsmall (σ:=a.eval) h0 hev
  exact wpIn_value (rd_noDefer h0) h1 (hK _ _ _ _ _ _ (I.still g hL hun hpre (hs _ _ h2) hm I.kq I.stage (I.actsStay g hL hk)))
 | make hw hk mm hmk hv hm=>
  rw [hwant,hw]
  have hfree:ρ (s.n+i)=none:=by
   cases hx:ρ (s.n+i) with
   | none=>rfl
   | some x=>have:=(I.names i hlt x hx).1; rw [hun] at this; cases this
  obtain ⟨y,w',ρ',h1,h2,h3⟩:=mk_run hC I.evo.hrel (σ:=a.eval) hmk hev hfree (Nat.le_refl (s.n+i)) (Nat.lt_succ_self _)
  rw [← hv] at h3
  refine wpIn_value (mk_noDefer hmk) h1 (hK (Nat.lor mask (one i)) k ρ' st _ _ ?_)
  obtain ⟨k1,k2,k3,k4,k5⟩:=I.more g hL hun hpre h2.le h3
  have hJ:bit st.joined i=false:=by
   cases hb:bit st.joined i with
   | false=>rfl
   | true=>have:=I.joined i hb; rw [hun] at this; cases this
  refine ⟨k1,by simp [I.lsize],k2,I.actsStay g hL hk,I.kq,I.stage,I.stn,k3,k4,k5,?_,?_,fun j hj=>up j (I.joined j hj),I.dis,?_⟩
  ·refine (I.evo.trans' h2 (by omega) (by have:=I.stn; omega)).congr fun b=>?_
   rw [withMade_get hid,Tree.get_set,withMade_get hid]
   by_cases e:b=s.n+i
   ·subst e
    rw [if_pos rfl]
    have hb:Nat.ble s.n (s.n+i)=true:=by simp
    unfold ovr
    rw [hb,Nat.add_sub_cancel_left,bit_lor,bit_one,hJ,hm]
    simp
   ·rw [if_neg e]
    have:ovr (Nat.lor mask (one i)) st.joined M s.n b=ovr mask st.joined M s.n b:=by
     unfold ovr
     cases hb:Nat.ble s.n b with
     | false=>rfl
     | true=>
      have hb':s.n≤b:=by simpa using hb
      have hne:¬ i=b-s.n:=by omega
      rw [bit_lor,bit_one]
      simp [hne]
    rw [this]
  ·intro j hj x hx
   cases hρ:ρ (s.n+j) with
   | some x'=>
    obtain ⟨q1,q2⟩:=I.names j hj x' hρ
    exact ⟨up j q1,q2⟩
   | none=>
    have:=h2.new _ x hx hρ
    have e:j=i:=by omega
    subst e
    exact ⟨by rw [getD_set hi',if_pos rfl],by rw [hm]; rfl⟩
  ·intro b hb
   cases hρ:ρ' b with
   | none=>rfl
   | some x=>
    have:=h2.new _ x hρ (I.fr b hb)
    have:=I.stn
    omega
 | act hw hk st0 st' g1 g2 hs hj hm=>
  rw [hwant,hw]
  obtain ⟨e,hn⟩:=I.actsNext g (hact hk) hun hi' hpre
  subst e
  rw [I.stage] at g1; cases g1
  have hlen:t+1≤p.acts.length:=(List.getElem?_eq_some_iff.1 (hact hk)).1
  refine hs ρ a w r hev Hsmall I.fr hgr N K Q fun ρ' y w' ev hy=>?_
  refine hK (Nat.lor mask (one i)) (t+1) ρ' st' _ _ ?_
  obtain ⟨k1,k2,k3,k4,k5⟩:=I.more g hL hun hpre ev.le hy
  have hJ':∀ j,bit st'.joined j=(bit st.joined j || (bit (p.preds.getD i 0) j && (mO M j).isSome)):=fun j=>by rw [hj,joinMade_bit]
  have nameOld:∀ j,j<L.length→∀ x,ρ' (s.n+j)=some x→ρ (s.n+j)=some x:=by
   intro j hjl x hx
   cases hρ:ρ (s.n+j) with
   | some x'=>rw [ev.le _ _ hρ] at hx; exact hx
   | none=>have:=ev.new _ x hx hρ; have:=I.stn; omega
  have wide:Evo ρ (withMade mask st.joined M st.h) st.n w ρ' (withMade (Nat.lor mask (one i)) st'.joined M st'.h) st'.n w':=by
   refine ev.widen I.evo.hrel (I.sub g hpre) fun b ob hb=>?_
   rw [withMade_get hid,ovr_more hm] at hb
   cases ho':ovr mask st'.joined M s.n b with
   | none=>rw [ho'] at hb; exact .inl (by simpa using hb)
   | some o'=>
    right
    rw [ho'] at hb
    have:o'=ob:=by simpa using hb
    subst this
    unfold ovr at ho'
    replace ho':=of_cond_some ho'
    obtain ⟨c1,c2⟩:=ho'
    simp only [Bool.and_eq_true,Bool.not_eq_true'] at c1
    obtain ⟨c3,c4,c5⟩:=c1
    have hbn:s.n≤b:=by simpa using c3
    rw [hJ',Bool.or_eq_false_iff] at c5
    obtain ⟨c5,c6⟩:=c5
    rw [c2] at c6
    have c6:bit (p.preds.getD i 0) (b-s.n)=false:=by simpa using c6
    have hjl:=mO_lt hmlt c2
    refine ⟨?_,?_⟩
    ·rw [withMade_get hid]
     unfold ovr
     rw [c3,c4,c5,c2]; rfl
    ·rw [withMade_get hid]
     unfold ovr
     rw [c6]
     have:=I.dis _ hjl c5
     rw [show s.n+(b-s.n)=b from by omega] at this
     rw [this]; simp
  refine ⟨k1,by simp [I.lsize],k2,hn,hlen,g2,by have:=I.stn; have:=ev.num; omega,k3,k4,k5,I.evo.trans wide,?_,?_,?_,I.fr.evo ev⟩
  ·intro j hjl x hx
   obtain ⟨q1,q2⟩:=I.names j hjl x (nameOld j hjl x hx)
   exact ⟨up j q1,q2⟩
  ·intro j hb
   rw [hJ',Bool.or_eq_true_iff] at hb
   rcases hb with hb | hb
   ·exact up j (I.joined j hb)
   ·simp only [Bool.and_eq_true] at hb; exact up j (hpre j hb.1)
  ·intro j hjl hb
   rw [hJ',Bool.or_eq_false_iff] at hb
   obtain ⟨b1,b2⟩:=hb
   cases hx:st'.h.get (s.n+j) with
   | none=>rfl
   | some o'=>
    exfalso
    obtain ⟨c,sh,ex,x,q1,q2,q3⟩:=ev.hrel.obj _ o' hx
    have q4:=nameOld j hjl _ q1
    obtain ⟨m1,m2⟩:=I.names j hjl _ q4
    rw [m2] at b2
    have b2:bit (p.preds.getD i 0) j=false:=by simpa using b2
    obtain ⟨om,hom⟩:=Option.isSome_iff_exists.1 m2
    have hbig:(withMade mask st.joined M st.h).get (s.n+j)=some om:=by
     rw [withMade_get hid]
     unfold ovr
     rw [Nat.add_sub_cancel_left,show Nat.ble s.n (s.n+j)=true from by simp,I.masked,m1,b1,hom]; rfl
    cases hown:o'.own with
    | false=>
     have z1:=ev.ros _ o' hx hown
     rw [withMade_get hid,I.dis j hjl b1] at z1
     unfold ovr at z1
     rw [Nat.add_sub_cancel_left,b2] at z1
     simp at z1
    | true=>
    rcases ev.dom _ o' _ hx hown q1 with ⟨b0,o0,x0,z1,z0,z2,z3⟩ | hge
    ·have:=I.evo.hrel.inj b0 (s.n+j) o0 om x0 _ (I.sub g hpre _ _ z1) hbig z0 z2 q4 z3
     subst this
     rw [withMade_get hid,I.dis j hjl b1] at z1
     unfold ovr at z1
     rw [Nat.add_sub_cancel_left,b2] at z1
     simp at z1
    ·have:=I.evo.hrel.lt hbig q4
     simp at this hge; omega
end
end Go.Ev
end
section
namespace Go.Ev
variable {C:Ctx}
theorem Evo.bump {ρ ρ':Ren} {h h':Heap} {n n' n'':Nat} {w w':World} (e:Evo ρ h n w ρ' h' n' w') (hn:n'≤n''):Evo ρ h n w ρ' h' n'' w':=
 ⟨e.le,fun b x h1 h2=>by have:=e.new b x h1 h2; omega,by have:=e.num; omega,e.hrel,e.size,e.frame,e.dom,e.ros,e.side⟩
def unl (m:Nat) (listed:Array Bool):Nat:=(List.range m).countP fun j=>!(listed.getD j false)
theorem countP_less {α:Type} {p q:α→Bool}:∀ {l:List α},(∀ x∈l,q x=true→p x=true)→(∃ x∈l,p x=true∧q x=false)→l.countP q<l.countP p
 | [],_,⟨x,hx,_⟩=>by simp at hx
 | y::l,h,⟨x,hx,h1,h2⟩=>by
  have hle:l.countP q≤l.countP p:=List.countP_mono_left fun z hz=>h z (by simp [hz])
  rw [List.countP_cons,List.countP_cons]
  rcases List.mem_cons.1 hx with rfl | hx
  ·rw [h1,h2]; simp; omega
  ·have ih:=countP_less (l:=l) (fun z hz=>h z (by simp [hz])) ⟨x,hx,h1,h2⟩
   have:=h y (by simp)
   cases hq:q y <;> cases hp:p y <;> simp_all <;> omega
theorem unl_set {m i:Nat} {listed:Array Bool} (hi:i<m) (hs:i<listed.size) (hu:listed.getD i false=false):unl m (listed.setIfInBounds i true)<unl m listed:=by
 unfold unl
 refine countP_less (fun x _ h=>?_) ⟨i,by simpa using hi,by simp [hu],by rw [getD_set hs,if_pos rfl]; rfl⟩
 rw [getD_set hs] at h
 by_cases e:x=i
 ·rw [if_pos e] at h; cases h
 ·rw [if_neg e] at h; exact h
theorem unl_zero {m:Nat} {listed:Array Bool} (h:unl m listed=0):∀ j,j<m→listed.getD j false=true:=by
 intro j hj
 unfold unl at h
 rw [List.countP_eq_zero] at h
 have:=h j (by simpa using hj)
 simpa using this
section
variable {L:List Oper} {p:Plan} {s:St} {M:List Made} {G:List Stage} {R:List Rd} {tmA:Nat→Tm} {vA:Nat→V}
variable {ρ0:Ren} {w0:World} {ds:List Deferred}
theorem region_walk (hC:C.Ok) (g:Reg C L p s M G R tmA vA) (hg0:GRel C ρ0) {ops:Array Oper} (hops:ops.toList=L) {r:Option Nat} {N:Nat} {Q:Exit→Act→World→Prop}
  (hQ:∀ mask k ρ st listed a w,Inv C L p s M G vA ρ0 w0 ds mask k ρ st listed a w→(∀ j,j<L.length→listed.getD j false=true)→Q .normal a w) :
  ∀ (fuel mask k:Nat) (ρ:Ren) (st:Stage) (listed:Array Bool) (a:Act) (w:World),Inv C L p s M G vA ρ0 w0 ds mask k ρ st listed a w→unl L.length listed≤fuel →
   wpAnyIn (Wd r) N C.P .any ops Q fuel listed a w:=by
 have none:∀ (listed:Array Bool),listed.size=L.length→(∀ j,j<L.length→listed.getD j false=true)→Region.ready .any ops listed=[]:=by
  intro listed hs hall
  refine List.eq_nil_iff_forall_not_mem.2 fun i hi=>?_
  obtain ⟨hu,o,ho,_⟩:=mem_ready.1 hi
  have hL:L[i]? = some o:=by rw [← hops,Array.getElem?_toList]; exact ho
  have hlt:i<L.length:=(List.getElem?_eq_some_iff.1 hL).1
  have h1:=hall i hlt
  have hs':i<listed.size:=by omega
  have e:listed.getD i true=listed.getD i false:=by simp [hs']
  rw [e,h1] at hu; cases hu
 have all:∀ (listed:Array Bool),listed.size=L.length→Region.ready .any ops listed=[]→∀ j,j<L.length→listed.getD j false=true:=by
  intro listed hs hnil j
  induction j using Nat.strongRecOn with
  | _ j ih=>
   intro hj
   cases hu:listed.getD j false with
   | true=>rfl
   | false=>
    exfalso
    have hL:L[j]? = some L[j]:=by simp [hj]
    have hmem:j∈Region.ready .any ops listed:=by
     refine mem_ready.2 ⟨?_,L[j],by rw [← Array.getElem?_toList,hops]; exact hL,fun e he hb=>?_⟩
     ·have hs':j<listed.size:=by omega
      have e:listed.getD j true=listed.getD j false:=by simp [hs']
      rw [e]; exact hu
     ·have:=g.plan.preds.back j _ hL e (by simpa using he) hb
      exact ih e.on this (by omega)
    rw [hnil] at hmem; cases hmem
 intro fuel
 induction fuel with
 | zero=>
  intro mask k ρ st listed a w I hu
  have hall:=unl_zero (Nat.le_zero.1 hu)
  exact ⟨none listed I.lsize hall,hQ _ _ _ _ _ _ _ I hall⟩
 | succ fuel ih=>
  intro mask k ρ st listed a w I hu
  refine ⟨fun hnil=>hQ _ _ _ _ _ _ _ I (all listed I.lsize hnil),fun i hi=>?_⟩
  refine region_step hC g hg0 I hops hi fun mask' k' ρ' st' a' w' I'=>ih _ _ _ _ _ _ _ I' ?_
  obtain ⟨hu0,o,ho,_⟩:=mem_ready.1 hi
  have hL:L[i]? = some o:=by rw [← hops,Array.getElem?_toList]; exact ho
  have hlt:i<L.length:=(List.getElem?_eq_some_iff.1 hL).1
  have hs':i<listed.size:=by rw [I.lsize]; exact hlt
  have e:listed.getD i true=listed.getD i false:=by simp [hs']
  have:=unl_set hlt hs' (by rw [← e]; exact hu0)
  omega
end
theorem region_sound (hC:C.Ok) (hmix:C.P.follows .mixedOrders=true) {id:Nat} {ops:Array Oper} {s:St} {p:Plan} {d:DS} {t:Stage} {k:Nat} (hp:planOf C ops.toList=some p)
  (hact:∀ k' < k,∀ o tm h n r,actR C k' o tm h n=some r→ActSound C o tm h n r.1 r.2.1 r.2.2)
  (hd:drawR C k p ops.toList ops.toList 0 s.n { tm:=s.tm,stages:=[{ h:=s.h,joined:=0,n:=s.n+ops.size }],made:=[],rds:=[] }=some d)
  (ht:topStage d.stages=some t) (hch:checkReads C p d.made d.stages d.rds=true) (rnd:Option Nat) :
  CodeSound C rnd (.region id ops true) s .normal { tm:=d.tm,h:=withMade (one ops.size-1) t.joined d.made t.h,n:=t.n,defs:=s.defs }:=by
 have hplan:=planOf_spec hp
 obtain ⟨lm,ls,lr,g1,g2,g3,g4,g5,g6⟩:=draw_facts hplan k hact ops.toList [] 0 0 _ d rfl rfl hd (by simp) rfl
 obtain ⟨tmA,vA,k1,k2,k3⟩:=g6.funs
 simp only [List.append_nil] at g1 g3
 have hsize:ops.size=ops.toList.length:=by simp
 have g:Reg C ops.toList p s d.made d.stages.reverse d.rds tmA vA:=by
  refine ⟨hplan,k1,fun j o h=>(k3 j o h).1,fun j o h=>?_,fun m hm=>?_,?_,?_,?_⟩
  ·obtain ⟨_,t',q1,q2⟩:=k3 j o h
   rw [Nat.zero_add] at q1 q2
   exact ⟨t',fun hk=>by rw [hplan.acts]; exact (q1 hk).2,q2⟩
  ·rw [g1] at hm; exact (g4 m hm).2
  ·rw [List.length_reverse,g2,hplan.acts]; simp [g5]
  ·rw [g2,← hsize]; simp
  ·intro r hr k st e1 e2 e3
   obtain ⟨v,k1,k2⟩:=checkReads_spec hch r hr k st e1 e2 e3
   exact ⟨v,k1,fun ρ y hy=>same_rel k2 hy⟩
 intro ρ a w r S hr N
 refine wpIn_region_any hmix ?_
 have hfin:∀ mask k ρ' st listed a' w',Inv C ops.toList p s d.made d.stages.reverse vA ρ w.drew a.defers mask k ρ' st listed a' w'→(∀ j,j<ops.toList.length→listed.getD j false=true) →
   Post C ρ s w .normal { tm:=d.tm,h:=withMade (one ops.size-1) t.joined d.made t.h,n:=t.n,defs:=s.defs } .normal a' w':=by
  intro mask k ρ' st listed a' w' I hall
  have hid:∀ m∈d.made,m.id=s.n+m.i:=fun m hm=>(g.made m hm).2
  have hmlt:∀ m∈d.made,m.i<ops.toList.length:=fun m hm=>(g.made m hm).1
  obtain ⟨tail,htail⟩:=topStage_some ht
  have hkq:k=tail.length:=by
   have hl:=g.glen
   rw [List.length_reverse,htail,List.length_cons] at hl
   have:=I.kq
   by_cases e:k=p.acts.length
   ·omega
   ·exfalso
    have hlt:k<p.acts.length:=by omega
    obtain ⟨x0,hx⟩:∃ x0,p.acts[k]? = some x0:=⟨_,List.getElem?_eq_getElem hlt⟩
    have hmem:=List.mem_of_getElem? hx
    rw [hplan.acts] at hmem
    obtain ⟨q,o,e1,e2,_⟩:=actsOf_mem.1 hmem
    have hxl:x0<ops.toList.length:=by
     have:=(List.getElem?_eq_some_iff.1 e2).1
     omega
    have:=(I.acts k _ hx).1 (hall _ hxl)
    omega
  have hst:st=t:=by
   have:=I.stage
   rw [hkq,htail] at this
   have e:=rev_get [] tail t
   simp only [List.nil_append] at e
   rw [e] at this; cases this; rfl
  subst hst
  have hevo:Evo ρ s.h s.n w ρ' (withMade (one ops.size-1) st.joined d.made st.h) st.n w':=by
   refine ((Evo.drew S.heap s.n).trans I.evo).congr fun b=>?_
   rw [withMade_get hid,withMade_get hid]
   have:ovr (one ops.size-1) st.joined d.made s.n b=ovr mask st.joined d.made s.n b:=by
    unfold ovr
    cases ho:mO d.made (b-s.n) with
    | none=>
     cases (Nat.ble s.n b && (bit (one ops.size-1) (b-s.n) && !bit st.joined (b-s.n))) <;> cases (Nat.ble s.n b && (bit mask (b-s.n) && !bit st.joined (b-s.n))) <;> rfl
    | some o=>
     have hlt:=mO_lt hmlt ho
     rw [bit_all (by omega),I.masked,hall _ hlt]
   rw [this]
  refine ⟨rfl,ρ',hevo,⟨?_,hevo.hrel,I.fr,S.glob.mono hevo.le,by rw [I.defs]; exact S.defs.mono hevo.le⟩⟩
  obtain ⟨q1,q2⟩:=g.tm_get _ (Nat.le_refl _)
  rw [k2] at q1 q2
  refine ⟨by rw [I.tsize,q1],fun x=>?_⟩
  have:d.tm.get x=cur ops.toList s vA (fun q=>listed.getD q false) x:=by
   rw [q2]
   unfold cur
   split
   ·rename_i q hq
    obtain ⟨q',o',e1,e2,_⟩:=writer_some hq
    have hlt:=(List.getElem?_eq_some_iff.1 e2).1
    have hql:q<ops.toList.length:=by omega
    show (bif Nat.blt q ops.toList.length then vA q else s.tm.get x)=bif listed.getD q false then vA q else s.tm.get x
    rw [hall q hql,show Nat.blt q ops.toList.length=true from by simpa using hql]
   ·rfl
  show VRel ρ' (d.tm.get x) _
  rw [this]; exact I.tm x
 refine region_walk (ρ0:=ρ) (w0:=w.drew) (ds:=a.defers) hC g S.glob rfl hfin ops.size 0 0 ρ { h:=s.h,joined:=0,n:=s.n+ops.size } (Array.replicate ops.size false) a w.drew ?_ ?_
 ·have hrep:∀ j,(Array.replicate ops.size false).getD j false=false:=by intro j; simp [Array.getElem?_replicate]; split <;> rfl
  refine ⟨fun j=>(by rw [bit_zero,hrep]),by simp,fun i j h=>(by rw [hrep] at h; cases h),fun x y _=>(by rw [hrep]; simp),Nat.zero_le _,by rw [hsize]; exact g.g0,by rw [← hsize]; exact Nat.le_refl _,
   S.tm.size,fun x=>?_,rfl,?_,fun j hj x hx=>?_,fun j h=>(by rw [bit_zero] at h; cases h),fun j hj _=>?_,fun b hb=>S.fr b (by simp at hb; omega)⟩
  ·have:cur ops.toList s vA (fun q=>(Array.replicate ops.size false).getD q false) x=s.tm.get x:=by
    unfold cur
    split
    ·simp only [hrep]; rfl
    ·rfl
   rw [this]; exact S.tm.get x
  ·refine ((Evo.refl s.n (S.heap.drew)).congr fun b=>?_).bump (Nat.le_add_right _ _)
   rw [withMade_get (fun m hm=>(g.made m hm).2)]
   unfold ovr
   rw [bit_zero]
   simp
  ·rw [S.fr _ (Nat.le_add_right _ _)] at hx; cases hx
  ·show s.h.get (s.n+j)=none
   cases hx:s.h.get (s.n+j) with
   | none=>rfl
   | some o=>
    obtain ⟨c,sh,ex,x,q1,_⟩:=S.heap.obj _ o hx
    rw [S.fr _ (Nat.le_add_right _ _)] at q1; cases q1
 ·unfold unl
  exact Nat.le_trans (List.countP_le_length) (by simp)
end Go.Ev
end
