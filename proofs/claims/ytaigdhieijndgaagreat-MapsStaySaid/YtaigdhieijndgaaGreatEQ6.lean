import Derived.Test.YtaigdhieijndgaaGreatEQ5
import Derived.Test.YtaigdhieijndgaaGreatEQ0
import Derived.RangeFuncRecord
section
namespace Go.Ev
variable {F:Fence} {n:Nat} {P:Program} {Q:Exit→Act→World→Prop} {a:Act} {w:World}
section
variable {b:Frame} {k:List Item} {cs:List Frame}
theorem stepR_scope {c:Code}:step P (lone (b.atR a (.code (.scope c)::k)) cs w)=.next (lone (b.atR a (.code c::.inScope c::k)) cs w):=
 step_lone_go (by simp [stepG,stepG.exec,Frame.atR])
theorem stepR_inScope {c:Code}:step P (lone (b.atR a (.inScope c::k)) cs w)=.next (lone (b.atR a k) cs w):=
 step_lone_go (by simp [stepG,stepG.exec,Frame.atR])
end
def InLoop (F:Fence) (n:Nat) (P:Program) (c:Code) (Q:Exit→Act→World→Prop) (a:Act) (w:World):Prop:=
 ∀ (b:Frame) (k:List Item) (cs:List Frame),b.roundOf=F.round→F.fn b.fn→F.room (cs.length+1+n) →
  ∃ e a' w',Q e a' w'∧ArrivesIn (Machine.fenced P F) P (lone (b.atR a (.code c::.inLoop c::k)) cs w) b k cs e a' w'
theorem wpIn_of_inLoop {c:Code} (h:InLoop F n P c Q a w):(Code.loop c).wpIn F n P Q a w:=by
 intro b k cs hro hb hr
 obtain ⟨e,a',w',hq,harr⟩:=h b k cs hro hb hr
 exact ⟨e,a',w',hq,.of_steps (.one (fenced_calm hb hr rfl) stepR_loop) harr⟩
theorem inLoop_of_wpIn {c:Code} (h:c.wpIn F n P (Exit.then (InLoop F n P c Q) Q) a w):InLoop F n P c Q a w:=by
 intro b k cs hro hb hr
 obtain ⟨e,a₁,w₁,hq,harr⟩:=h b (.inLoop c::k) cs hro hb hr
 cases e with
 | normal=>
  obtain ⟨e₂,a₂,w₂,hq₂,harr₂⟩:=hq b k cs hro hb hr
  exact ⟨e₂,a₂,w₂,hq₂,.of_steps (StepsIn.trans harr (.one (fenced_calm hb hr rfl) stepR_inLoop)) harr₂⟩
 | exit id=>exact ⟨_,a₁,w₁,hq,.pass (x:=.inLoop c) rfl (fun _ _=>.inl (by simp)) harr⟩
 | goto l=>exact ⟨_,a₁,w₁,hq,.pass (x:=.inLoop c) rfl (fun _ _=>.inl (by simp)) harr⟩
 | ret=>exact ⟨_,a₁,w₁,hq,.pass (x:=.inLoop c) rfl (fun _ _=>.inl (by simp)) harr⟩
 | panic ch=>exact ⟨_,a₁,w₁,hq,.pass (x:=.inLoop c) rfl (fun _ _=>.inl (by simp)) harr⟩
 | outgrown=>exact ⟨_,a₁,w₁,hq,.pass (x:=.inLoop c) rfl (fun _ _=>.inl (by simp)) harr⟩
def Jump (F:Fence) (n:Nat) (P:Program) (c:Code) (Q:Exit→Act→World→Prop) (l:Nat) (a:Act) (w:World):Prop:=
 ∀ (b:Frame) (k:List Item) (cs:List Frame),b.roundOf=F.round→F.fn b.fn→F.room (cs.length+1+n) →
  ∀ m,ArrivesIn (Machine.fenced P F) P m b (.inScope c::k) cs (.goto l) a w→∃ e a' w',Q e a' w'∧ArrivesIn (Machine.fenced P F) P m b k cs e a' w'
def caught (F:Fence) (n:Nat) (P:Program) (c:Code) (Q:Exit→Act→World→Prop):Exit→Act→World→Prop
 | .goto l,a,w=>Jump F n P c Q l a w
 | e,a,w=>Q e a w
theorem caught_arrives {c x:Code} {b:Frame} {k:List Item} {cs:List Frame} (hro:b.roundOf=F.round) (hb:F.fn b.fn) (hr:F.room (cs.length+1+n))
  (h:x.wpIn F n P (caught F n P c Q) a w) :
  ∃ e a' w',Q e a' w'∧ArrivesIn (Machine.fenced P F) P (lone (b.atR a (.code x::.inScope c::k)) cs w) b k cs e a' w':=by
 obtain ⟨e,a₁,w₁,hq,harr⟩:=h b (.inScope c::k) cs hro hb hr
 cases e with
 | normal=>exact ⟨.normal,a₁,w₁,hq,StepsIn.trans harr (.one (fenced_calm hb hr rfl) stepR_inScope)⟩
 | exit id=>
  have hx:exitTo id (.inScope c::k)=exitTo id k:=by simp [exitTo]
  refine ⟨.exit id,a₁,w₁,hq,fun k' hk=>harr.1 k' (by rw [hx]; exact hk),fun hr' hk=>harr.2 hr' (by rw [hx]; exact hk)⟩
 | goto l=>exact hq b k cs hro hb hr _ harr
 | ret=>exact ⟨_,a₁,w₁,hq,harr⟩
 | panic ch=>exact ⟨_,a₁,w₁,hq,harr⟩
 | outgrown=>exact ⟨_,a₁,w₁,hq,harr⟩
theorem wpIn_scope {c:Code} (h:c.wpIn F n P (caught F n P c Q) a w):(Code.scope c).wpIn F n P Q a w:=by
 intro b k cs hro hb hr
 obtain ⟨e,a',w',hq,harr⟩:=caught_arrives (k:=k) hro hb hr h
 exact ⟨e,a',w',hq,.of_steps (.one (fenced_calm hb hr rfl) stepR_scope) harr⟩
theorem jump_some {c rest:Code} {l:Nat} (hf:findLabel c l=some rest) (h:rest.wpIn F n P (caught F n P c Q) a w):Jump F n P c Q l a w:=by
 intro b k cs hro hb hr m hm
 have hg:gotoIn l (.inScope c::k)=some (.code rest::.inScope c::k):=by simp [gotoIn,hf]
 obtain ⟨e,a',w',hq,harr⟩:=caught_arrives (k:=k) hro hb hr h
 exact ⟨e,a',w',hq,.of_steps (hm.1 _ hg) harr⟩
theorem jump_none {c:Code} {l:Nat} (hf:findLabel c l=none) (h:Q (.goto l) a w):Jump F n P c Q l a w:=by
 intro b k cs hro hb hr m hm
 have hg:gotoIn l (.inScope c::k)=gotoIn l k:=by simp [gotoIn,hf]
 exact ⟨.goto l,a,w,h,fun k' hk=>hm.1 k' (by rw [hg]; exact hk),fun hr' hk=>hm.2 hr' (by rw [hg]; exact hk)⟩
abbrev Wd (r:Option Nat):Fence:={ Fence.wide with round:=r }
theorem callsIn_wd (r:Option Nat) (n:Nat) (P:Program) (f:FuncId) (args:Array Value) (w:World) (R:Ending→World→Prop):CallsIn (Wd r) n P f args w R=CallsIn Fence.wide n P f args w R:=rfl
theorem roundIn_wd (r:Option Nat) (n:Nat) (P:Program) (l:Nat) (f:FuncId) (tmps:Array Value) (assign body:Code) (w:World) (R:Ending→World→Prop) :
  RoundIn (Wd r) n P l f tmps assign body w R=RoundIn Fence.wide n P l f tmps assign body w R:=rfl
end Go.Ev
end
section
namespace Go.Ev
variable {C:Ctx}
theorem TmRel.put {ρ:Ren} {tm tm':Tm} {a:Act} {dst:Option Tmp} {v:V} {y:Value} (h:TmRel ρ tm a.tmps) (hp:tm.put dst v=some tm') (hv:VRel ρ v y) :
  TmRel ρ tm' (a.put dst y).tmps∧(a.put dst y).defers=a.defers:=by
 unfold Tm.put at hp
 cases dst with
 | none=>cases hp; exact ⟨h,rfl⟩
 | some d=>
  replace hp:=of_cond_some hp
  obtain ⟨hlt,hp⟩:=hp
  cases hp
  have hlt:d<tm.n:=by simpa using hlt
  refine ⟨⟨by simp [Act.put,h.size],fun i=>?_⟩,rfl⟩
  simp only [Act.put,Tm.get,Tree.get_set]
  by_cases e:i=d
  ·subst e
   rw [if_pos rfl]
   have:i<a.tmps.size:=by rw [h.size]; exact hlt
   simp [this]
   exact hv
  ·rw [if_neg e]
   have hi:=h.get i
   unfold Tm.get at hi
   simp only [Array.getD_eq_getD_getElem?,Array.getElem?_setIfInBounds_ne (fun x=>e x.symm)]
   simpa using hi
theorem evalT_rel {ρ:Ren} (hg:GRel C ρ) {tm:Tm} {a:Act} {x:Operand} {u:V} (ht:∀ t,x=.tmp t→VRel ρ (tm.get t) (a.tmps.getD t undef)) (h:evalT C tm x=some u):VRel ρ u (a.eval x):=by
 cases x with
 | tmp t=>simp only [evalT] at h; cases h; exact ht t rfl
 | const v=>exact (ofValue_rel ρ h).1
 | global g=>
  simp only [evalT] at h
  obtain ⟨h1,h2⟩:=of_cond_some h
  cases h2
  exact .ptr (off:=0) (hg g (by simpa using h1))
 | func f=>simp only [evalT] at h; cases h; exact .func (xs:=[]) (ys:=[]) .nil .nil
theorem VRel.bool_inv {ρ:Ren} {v:V} {b:Bool} (h:VRel ρ v (.bool b)):v=.s (.bool b):=by cases h; rfl
theorem wantedT_eq {ρ:Ren} {ops:Array Oper} {tm:Tm} {a:Act} {o:Oper} (hsz:a.tmps.size=tm.n)
  (hg:∀ t,t∈guardTmps ops.toList o→VRel ρ (tm.get t) (a.tmps.getD t undef)):Region.wanted o (yielded ops a.tmps)=wantedT ops.toList tm o:=by
 unfold Region.wanted wantedT
 unfold guardTmps at hg
 cases hgd:o.guard with
 | none=>rfl
 | some q=>
  obtain ⟨j,want⟩:=q
  simp only [hgd,Array.getElem?_toList] at hg
  simp only [yielded,Array.getElem?_toList]
  cases hd:(ops[j]?).bind (·.dst) with
  | none=>simp
  | some t=>
   rw [hd] at hg
   have hv:=hg t (by simp)
   simp only [Option.bind_some]
   have hno:∀ y:Option Value,(∀ b,y≠some (.bool b))→((match y with | some (.bool b)=>some b | _=>none:Option Bool) == some want)=false:=by
    intro y hy
    split
    ·exact absurd rfl (hy _)
    ·rfl
   by_cases ht:t<tm.n
   ·have hlt:t<a.tmps.size:=by rw [hsz]; exact ht
    have hbl:Nat.blt t tm.n=true:=by simpa using ht
    have e:a.tmps.getD t undef=a.tmps[t]:=by simp [hlt]
    rw [e] at hv
    have e2:a.tmps[t]? = some a.tmps[t]:=by simp [hlt]
    rw [e2]
    generalize a.tmps[t]=y at hv
    by_cases hb:∃ b,y=.bool b
    ·obtain ⟨b,rfl⟩:=hb
     rw [hv.bool_inv,hbl]
     cases b <;> cases want <;> rfl
    ·refine Eq.trans (hno (some y) (fun b e=>hb ⟨b,by simpa using e⟩)) ?_
     split
     ·rename_i b e3
      rw [e3] at hv
      cases hv
      exact absurd ⟨_,rfl⟩ hb
     ·rfl
   ·have hbl:Nat.blt t tm.n=false:=by simpa using Nat.le_of_not_lt ht
    have hge:a.tmps[t]? = none:=by rw [Array.getElem?_eq_none]; rw [hsz]; exact Nat.le_of_not_lt ht
    rw [hge]
    refine Eq.trans (hno none (by simp)) ?_
    split
    ·rw [hbl]; rfl
    ·rfl
inductive DRel (ρ:Ren):List Nat→List Deferred→Prop
 | nil:DRel ρ [] []
 | cons {d c sh ex:Nat} {ds:List Nat} {es:List Deferred} (h:ρ d=some (c,sh,ex)) (hs:DRel ρ ds es):DRel ρ (d::ds) ({ target:=.collected c,args:=#[] }::es)
theorem DRel.mono {ρ ρ':Ren} (hle:ρ.le ρ') {ds:List Nat} {es:List Deferred} (h:DRel ρ ds es):DRel ρ' ds es:=by
 induction h with
 | nil=>exact .nil
 | cons h hs ih=>exact .cons (hle _ _ h) ih
structure SRel (C:Ctx) (ρ:Ren) (s:St) (a:Act) (w:World):Prop where
 tm:TmRel ρ s.tm a.tmps
 heap:HRel ρ s.h w
 fr:Fr ρ s.n
 glob:GRel C ρ
 defs:DRel ρ s.defs a.defers
def xOf:X→Exit
 | .normal=>.normal
 | .exit id=>.exit id
 | .goto l=>.goto l
 | .ret=>.ret
def Post (C:Ctx) (ρ:Ren) (s:St) (w:World) (x:X) (s':St):Exit→Act→World→Prop:=
 fun e a' w'=>e=xOf x∧∃ ρ',Evo ρ s.h s.n w ρ' s'.h s'.n w'∧SRel C ρ' s' a' w'
inductive RRel (ρ:Ren):Option Nat→Option Nat→Prop
 | none:RRel ρ none none
 | some {l c sh ex:Nat} (h:ρ l=some (c,sh,ex)):RRel ρ (some l) (some c)
theorem RRel.mono {ρ ρ':Ren} (hle:ρ.le ρ') {a b:Option Nat} (h:RRel ρ a b):RRel ρ' a b:=by
 cases h with
 | none=>exact .none
 | some h=>exact .some (hle _ _ h)
def Gives (ρ:Ren) (h:Heap) (n:Nat) (w:World) (v:V) (h':Heap) (n':Nat):Ending→World→Prop:=
 fun e w'=>∃ ρ' y,e=.returned y∧Evo ρ h n w ρ' h' n' w'∧VRel ρ' v y
def CallSound (C:Ctx) (f:FuncId) (args:List V) (h:Heap) (n:Nat) (v:V) (h':Heap) (n':Nat):Prop:=
 ∀ ρ w xs,VRels ρ args xs→HRel ρ h w→Fr ρ n→GRel C ρ →
  (callFunc f xs.toArray).run C.P w=.ok (.enter f xs.toArray) w∧∀ N,CallsIn Fence.wide N C.P f xs.toArray w (Gives ρ h n w v h' n')
def RoundSound (C:Ctx) (l:Nat) (args:List V) (h:Heap) (n:Nat) (v:V) (h':Heap) (n':Nat):Prop:=
 ∀ ρ w c sh ex xs,ρ l=some (c,sh,ex)→VRels ρ args xs→HRel ρ h w→Fr ρ n→GRel C ρ →
  ∃ f tmps assign body,(Instr.yield c xs.toArray).run C.P w=.ok (.round c f tmps assign body) w ∧
   ∀ N,RoundIn Fence.wide N C.P c f tmps assign body w (Gives ρ h n w v h' n')
def ActSound (C:Ctx) (o:Oper) (tm:Tm) (h:Heap) (n:Nat) (v:V) (h':Heap) (n':Nat):Prop:=
 ∀ ρ a w r,(∀ x∈o.op.operands,∀ u,evalT C tm x=some u→VRel ρ u (a.eval x))→HRel ρ h w→Fr ρ n→GRel C ρ →
  ∀ N next Q,(∀ ρ' y w',Evo ρ h n w ρ' h' n' w'→VRel ρ' v y→next (a.put o.dst y) w')→o.wpIn (Wd r) N C.P a w next Q
theorem about_wd (r:Option Nat) (P:Program) (w:World) (o:Oper) (a:Act):∀ f,o.about P w a.eval=some f→(Wd r).fn f:=fun _ _=>trivial
theorem act_noDefer {ev:Operand→Option V} {o:Oper} {h:Heap} {n:Nat} {r:Out} (hr:act C ev o h n=some r):∀ c,o.op≠.defer c:=by
 intro c e; simp [act,e] at hr
theorem rd_noDefer {ev:Operand→Option V} {o:Oper} {h:Heap} {v:V} (hr:rd C ev o h=some v):∀ c,o.op≠.defer c:=by
 intro c e; simp [rd,e] at hr
theorem mk_noDefer {ev:Operand→Option V} {o:Oper} {m:O×Mk} (hr:mk C ev o=some m):∀ c,o.op≠.defer c:=by
 intro c e; simp [mk,e] at hr
theorem wpIn_value {o:Oper} {a:Act} {w w':World} {y:Value} {r:Option Nat} {N:Nat} {P:Program} {next:Act→World→Prop} {Q:Exit→Act→World→Prop}
  (hd:∀ c,o.op≠.defer c) (h:(execOp a.eval o).run P w=.ok (.value y) w') (hn:next (a.put o.dst y) w'):o.wpIn (Wd r) N P a w next Q:=by
 refine ⟨about_wd r P w o a,?_⟩
 rw [Oper.semAt_eq _ _ _ hd,h]
 exact hn
theorem actSound_of {o:Oper} {tm:Tm} {h:Heap} {n:Nat} {out:Out} (hC:C.Ok) (hr:act C (evalT C tm) o h n=some out) {v:V} {h':Heap} {n':Nat}
  (hv:∀ v1 h1 n1,out=.val v1 h1 n1→v=v1∧h'=h1∧n'=n1) (hc:∀ f args,out=.enter f args→CallSound C f args h n v h' n')
  (hy:∀ l args,out=.round l args→RoundSound C l args h n v h' n'):ActSound C o tm h n v h' n':=by
 intro ρ a w r hev H hf hg N next Q hnext
 have:=act_run hC H hf hr (σ:=a.eval) hev
 have hd:=act_noDefer hr
 refine ⟨about_wd r C.P w o a,?_⟩
 rw [Oper.semAt_eq _ _ _ hd]
 cases out with
 | val v1 h1 n1=>
  obtain ⟨rfl,rfl,rfl⟩:=hv _ _ _ rfl
  obtain ⟨y,w',ρ',hrun,e1,e2⟩:=this
  rcases hrun with hrun | ⟨hrun,rfl⟩
  ·rw [hrun]; exact hnext _ _ _ e1 e2
  ·rw [hrun]; exact hnext _ _ _ e1 e2
 | enter f args=>
  obtain ⟨xs,hrun,e1⟩:=this
  obtain ⟨g1,g2⟩:=hc f args rfl ρ w xs e1 H hf hg
  rw [hrun,g1]
  refine ⟨fun h=>by simp [Fence.wide] at h,?_⟩
  rw [callsIn_wd]
  refine CallsIn.mono (g2 _) ?_
  rintro e w' ⟨ρ',y,rfl,k1,k2⟩
  exact hnext _ _ _ k1 k2
 | round l args=>
  obtain ⟨c,sh,ex,xs,hl,hrun,e1⟩:=this
  obtain ⟨f,tmps,as,bd,g1,g2⟩:=hy l args rfl ρ w c sh ex xs hl e1 H hf hg
  rw [hrun,g1]
  refine ⟨fun h=>by simp [Fence.wide] at h,?_⟩
  rw [roundIn_wd]
  refine RoundIn.mono (g2 _) ?_
  rintro e w' ⟨ρ',y,rfl,k1,k2⟩
  exact hnext _ _ _ k1 k2
end Go.Ev
end
section
namespace Go.Ev
variable {C:Ctx}
theorem argsTm_get (n:Nat):∀ (l:List V) (i:Nat) (t:Tree V) (j:Nat),(argsTm n i l t).n=n ∧
  (argsTm n i l t).get j=if i≤j∧j<i+l.length then (l[j-i]?).getD undefV else (t.get j).getD undefV
 | [],i,t,j=>by
  refine ⟨rfl,?_⟩
  rw [if_neg (by simp)]; rfl
 | v::l,i,t,j=>by
  obtain ⟨h1,h2⟩:=argsTm_get n l (i+1) (t.set i v) j
  refine ⟨h1,?_⟩
  simp only [argsTm]
  rw [h2,Tree.get_set]
  by_cases e:j=i
  ·subst e
   rw [if_neg (by omega),if_pos rfl,if_pos (by simp)]
   simp
  ·by_cases h:i+1≤j∧j<i+1+l.length
   ·rw [if_pos h,if_pos (by simp; omega)]
    have:j-i=j-(i+1)+1:=by omega
    rw [this,List.getElem?_cons_succ]
   ·rw [if_neg h,if_neg e,if_neg (by simp; omega)]
theorem argsTm_rel {ρ:Ren} {args:List V} {xs:List Value} (h:VRels ρ args xs) {n:Nat} (hn:args.length≤n) :
  TmRel ρ (argsTm n 0 args .leaf) (xs.toArray++Array.replicate (n-xs.toArray.size) undef):=by
 have hl:=h.length
 refine ⟨by rw [(argsTm_get n args 0 .leaf 0).1]; simp; omega,fun i=>?_⟩
 rw [(argsTm_get n args 0 .leaf i).2]
 by_cases hi:i<args.length
 ·rw [if_pos (by omega)]
  have h1:args[i]? = some args[i]:=by simp [hi]
  obtain ⟨x,g1,g2⟩:=h.get h1
  simp only [Nat.sub_zero,h1,Option.getD_some]
  have hx:i<xs.length:=by omega
  have:(xs.toArray++Array.replicate (n-xs.toArray.size) undef).getD i undef=x:=by
   have e:(xs.toArray++Array.replicate (n-xs.toArray.size) undef)[i]? = some x:=by
    rw [Array.getElem?_append_left (by simpa using hx)]; simpa using g1
   rw [Array.getD_eq_getD_getElem?,e]; rfl
  rw [this]; exact g2
 ·rw [if_neg (by omega)]
  have:(xs.toArray++Array.replicate (n-xs.toArray.size) undef).getD i undef=undef:=by
   rw [Array.getD_eq_getD_getElem?,Array.getElem?_append_right (by simp; omega)]
   simp [Array.getElem?_replicate]
   split <;> rfl
  rw [this]
  exact .s _
theorem resultsOf_run (hC:C.Ok) {ρ:Ren} {h:Heap} {w:World} (H:HRel ρ h w) {tm:Tm} {tmps:Array Value} (ht:TmRel ρ tm tmps) {f:ResultVar→Sem Value}
  (f1:∀ t,f (.tmp t)=pure (tmps.getD t undef)) (f2:∀ a t,f (.cell a t)=(do loadVar t (← asAddr (tmps.getD a undef)))) :
  ∀ {rs:List ResultVar} {vs:List V},resultsOf C tm h rs=some vs→∃ ys,VRels ρ vs ys∧(rs.mapM f).run C.P w=.ok ys w
 | [],vs,h=>by simp only [resultsOf] at h; cases h; exact ⟨[],.nil,by simp⟩
 | .tmp t::l,vs,h=>by
  simp only [resultsOf] at h
  replace h:=of_bind h
  obtain ⟨us,h1,h⟩:=h
  cases h
  obtain ⟨ys,g1,g2⟩:=resultsOf_run hC H ht f1 f2 h1
  exact ⟨_,.cons (ht.get t) g1,by simp only [List.mapM_cons,f1,Sem.run_bind,Sem.run_pure,Result.andThen_ok,g2]⟩
 | .cell a t::l,vs,h=>by
  simp only [resultsOf] at h
  replace h:=of_bind h
  obtain ⟨p,hp,h⟩:=h
  replace h:=of_bind h
  obtain ⟨v,hv,h⟩:=h
  replace h:=of_bind h
  obtain ⟨us,h1,h⟩:=h
  cases h
  obtain ⟨ys,g1,g2⟩:=resultsOf_run hC H ht f1 f2 h1
  obtain ⟨c,sh,ex,k1,k2⟩:=asPtr_rel hp (ht.get a)
  obtain ⟨y,m1,m2,_⟩:=load_run hC H hv k1
  refine ⟨_,.cons m2 g1,?_⟩
  simp only [List.mapM_cons,f2,Sem.run_bind,k2,asAddr,Sem.run_pure,Result.andThen_ok,m1,g2]
theorem results_run (hC:C.Ok) {ρ:Ren} {h:Heap} {w:World} (H:HRel ρ h w) {tm:Tm} {tmps:Array Value} (ht:TmRel ρ tm tmps) {fn:Func} {vs:List V}
  (hr:resultsOf C tm h fn.results.toList=some vs):∃ y,(results fn tmps).run C.P w=.ok y w∧VRel ρ (oneOf vs) y:=by
 have:∀ f:ResultVar→Sem Value,(∀ t,f (.tmp t)=pure (tmps.getD t undef))→(∀ a t,f (.cell a t)=(do loadVar t (← asAddr (tmps.getD a undef)))) →
   ∃ y,(do let vs ← fn.results.mapM f; pure (if h:vs.size=1 then vs[0] else .tuple vs):Sem Value).run C.P w=.ok y w∧VRel ρ (oneOf vs) y:=by
  intro f f1 f2
  obtain ⟨ys,g1,g2⟩:=resultsOf_run hC H ht f1 f2 hr
  refine ⟨if h:ys.toArray.size=1 then ys.toArray[0] else .tuple ys.toArray,?_,?_⟩
  ·rw [← Array.toArray_toList (xs:=fn.results),List.mapM_toArray]
   simp only [Sem.run_bind,Sem.run_map,g2,Result.andThen_ok,Sem.run_pure]
  ·cases g1 with
   | nil=>exact .tup (xs:=[]) .nil
   | cons h1 h2=>
    cases h2 with
    | nil=>exact h1
    | cons h3 h4=>simpa [oneOf] using VRel.tup (.cons h1 (.cons h3 h4))
 exact this _ (fun _=>rfl) (fun _ _=>rfl)
theorem putAll_rel {ρ:Ren}:∀ {ps:List Tmp} {vs:List V} {xs:List Value} {tm tm':Tm} {tmps:Array Value},putAll ps vs tm=some tm'→VRels ρ vs xs→TmRel ρ tm tmps →
  TmRel ρ tm' ((ps.zip xs).foldl (fun tmps (q:Tmp×Value)=>tmps.setIfInBounds q.1 q.2) tmps)∧xs.length=ps.length
 | [],_,_,tm,tm',tmps,h,hx,ht=>by
  cases hx with
  | nil=>simp only [putAll] at h; cases h; exact ⟨ht,rfl⟩
  | cons _ _=>simp [putAll] at h
 | p::ps,_,_,tm,tm',tmps,h,hx,ht=>by
  cases hx with
  | nil=>simp [putAll] at h
  | @cons v x vs xs hv hs=>
  simp only [putAll] at h
  replace h:=of_bind h
  obtain ⟨tm1,h1,h⟩:=h
  obtain ⟨g1,_⟩:=TmRel.put (a:={ tmps,defers:=[] }) ht h1 hv
  obtain ⟨k1,k2⟩:=putAll_rel h hs g1
  exact ⟨by simpa [Act.put] using k1,by simp [k2]⟩
theorem Evo.lose {ρ:Ren} {h:Heap} {w:World} (H:HRel ρ h w) (n:Nat) {b:Nat} {o:O} {x':Obj} {c sh ex:Nat} (hb:h.get b=some o) (hr:ρ b=some (c,sh,ex)) (ho:o.own=true) :
  Evo ρ h n w ρ (h.del b) n { w with heap:=w.heap.setIfInBounds c x' }:=by
 have f:∀ j oj,(h.del b).get j=some oj→j≠b∧h.get j=some oj:=by
  intro j oj hj
  rw [Tree.get_del] at hj
  by_cases e:j=b
  ·rw [if_pos e] at hj; cases hj
  ·rw [if_neg e] at hj; exact ⟨e,hj⟩
 refine ⟨Ren.le_refl ρ,fun k y h1 h2=>(by rw [h1] at h2; cases h2),Nat.le_refl _,⟨?_,?_⟩,by simp,?_,?_,fun k ok hk _=>(f _ _ hk).2,⟨rfl,rfl,rfl⟩⟩
 ·intro k ok hk
  obtain ⟨e,hk⟩:=f _ _ hk
  obtain ⟨c1,sh1,ex1,y,g1,g2,g3⟩:=H.obj k ok hk
  refine ⟨c1,sh1,ex1,y,g1,?_,g3⟩
  have:c≠c1:=fun e1=>e (H.inj b k o ok _ _ hb hk ho hr g1 e1).symm
  simp [Array.getElem?_setIfInBounds_ne this,g2]
 ·intro k k' ok ok' y y' h1 h2 hk0 h3 h4 h5
  exact H.inj k k' ok ok' y y' (f _ _ h1).2 (f _ _ h2).2 hk0 h3 h4 h5
 ·intro c1 hc1 hno
  have:c≠c1:=hno b o _ hb ho hr
  simp [Array.getElem?_setIfInBounds_ne this]
 ·intro k ok y hk hk0 hr'
  exact .inl ⟨k,ok,y,(f _ _ hk).2,hk0,hr',rfl⟩
theorem leaves {F:Fence} {N:Nat} {fn:Func} {tmps:Array Value} {R:Ending→World→Prop} {n:Nat}:∀ {ds:List Nat} {es:List Deferred} {ρ:Ren} {h h':Heap} {w:World},
  dropDefs ds h=some h'→DRel ρ ds es→HRel ρ h w →
  (∀ w',Evo ρ h n w ρ h' n w'→LeavesInM F N C.P fn tmps R [] .returning w')→LeavesInM F N C.P fn tmps R es .returning w
 | [],es,ρ,h,h',w,hd,hes,H,K=>by
  cases hes
  simp only [dropDefs] at hd
  cases hd
  exact K w (.refl n H)
 | d::ds,es,ρ,h,h',w,hd,hes,H,K=>by
  cases hes with | @cons _ c sh ex _ es hρ hs=>
  simp only [dropDefs] at hd
  split at hd
  ·rename_i hg
   obtain ⟨x,g1,g2⟩:=H.at hg hρ
   cases g2 with | defd h0=>
   have e1:Evo ρ h n w ρ (h.del d) n (w.putObj c (.deferred none)):=Evo.lose H n hg hρ rfl
   refine ⟨by simp,.inl ⟨c,_,rfl,run_takeDeferred g1,?_⟩⟩
   exact leaves hd hs e1.hrel fun w' e2=>K w' (e1.trans e2)
  ·cases hd
end Go.Ev
end
section
namespace Go.Ev
variable {C:Ctx}
def CodeSound (C:Ctx) (rnd:Option Nat) (c:Code) (s:St) (x:X) (s':St):Prop:=
 ∀ ρ a w r,SRel C ρ s a w→RRel ρ rnd r→∀ N,c.wpIn (Wd r) N C.P (Post C ρ s w x s') a w
theorem ORel.loop_inv {ρ:Ren} {sh ex:Nat} {st:LoopState} {pending:Option Code} {tm:Tm} {params:List Tmp} {assign body:Code} {x:Obj}
  (h:ORel ρ sh ex (.loop st pending tm params assign body) x):∃ L:Loop,x=.loop L∧sh=0∧L.state=st∧L.pending=pending∧TmRel ρ tm L.tmps∧L.params=params.toArray∧L.assign=assign∧L.body=body:=by
 cases h with | @loop _ _ _ _ _ _ l hs h1 h2 h3 h4 h5 h6=>exact ⟨l,rfl,hs,h1,h2,h3,h4,h5,h6⟩
theorem endRound_run {ρ:Ren} {x:X} {l:Nat} {h h':Heap} {n n':Nat} {v:V} (he:endRound x l h n=some (v,h',n')) {w:World} (H:HRel ρ h w) {c sh ex:Nat} (hl:ρ l=some (c,sh,ex)) :
  ∃ y w',(Instr.endRound c (jumpOf x)).run C.P w=.ok y w'∧Evo ρ h n w ρ h' n' w'∧VRel ρ v y:=by
 unfold endRound at he
 split at he
 ·rename_i st pend tm ps as bd hg
  obtain ⟨o,g1,g2⟩:=H.at hg hl
  obtain ⟨L,rfl,h0,l1,l2,l3,l4,l5,l6⟩:=g2.loop_inv
  cases he
  refine ⟨_,_,run_endRound (jumpOf x) g1,?_,.s _⟩
  refine Evo.turn H _ hg hl rfl rfl ?_
  refine .loop h0 ?_ rfl l3 l4 l5 l6
  cases (jumpOf x).isNone <;> rfl
 ·cases he
theorem endLoop_run {ρ:Ren} {l:Nat} {h h':Heap} {x:X} (he:endLoop l h=some (x,h')) (n:Nat) {w:World} (H:HRel ρ h w) {c sh ex:Nat} (hl:ρ l=some (c,sh,ex)) :
  ∃ jump w',(Instr.endLoop c).run C.P w=.ok jump w'∧Evo ρ h n w ρ h' n w'∧jump=jumpOf x:=by
 unfold endLoop at he
 split at he
 ·rename_i st pend tm ps as bd hg
  obtain ⟨o,g1,g2⟩:=H.at hg hl
  obtain ⟨L,rfl,h0,l1,l2,l3,l4,l5,l6⟩:=g2.loop_inv
  have key:st≠.busy→pend=jumpOf x→h'=h.set l (.loop .exhausted pend tm ps as bd) →
    ∃ jump w',(Instr.endLoop c).run C.P w=.ok jump w'∧Evo ρ h n w ρ h' n w'∧jump=jumpOf x:=by
   rintro hst hp rfl
   refine ⟨_,_,run_endLoop g1 (by rw [l1]; exact hst),?_,by rw [l2,hp]⟩
   exact Evo.turn H n hg hl rfl rfl (.loop h0 rfl l2 l3 l4 l5 l6)
  split at he
  ·cases he
  ·rename_i hst
   replace he:=of_bind he
   obtain ⟨y,hy,he⟩:=he
   cases he
   refine key (by intro e; exact hst e) ?_ rfl
   split at hy <;> cases hy <;> rfl
 ·cases he
theorem round_sound {l:Nat} {args:List V} {h h':Heap} {n n':Nat} {v:V} {pend:Option Code} {tm tm1:Tm} {ps:List Tmp} {as bd:Code} {s1 s2:St} {h1:Heap} {x:X}
  (hl:h.get l=some (.loop .ready pend tm ps as bd)) (hp:putAll ps args tm=some tm1) (c1:CodeSound C (some l) as { tm:=tm1,h,n,defs:=[] } .normal s1)
  (hb:setBusy l s1.h=some h1) (c2:CodeSound C (some l) bd { s1 with h:=h1 } x s2) (he:endRound x l s2.h s2.n=some (v,h',n')):RoundSound C l args h n v h' n':=by
 intro ρ w c sh ex xs hρ hxs H hf hg
 obtain ⟨o,g1,g2⟩:=H.at hl hρ
 obtain ⟨L,rfl,h0,l1,l2,l3,l4,l5,l6⟩:=g2.loop_inv
 obtain ⟨k1,k2⟩:=putAll_rel hp hxs l3
 refine ⟨L.fn,_,L.assign,L.body,run_yield g1 (by rw [l4]; simpa using k2),fun N=>?_⟩
 have etm:(L.params.zip xs.toArray).foldl (fun tmps (x:Tmp×Value)=>tmps.setIfInBounds x.1 x.2) L.tmps=(ps.zip xs).foldl (fun tmps (q:Tmp×Value)=>tmps.setIfInBounds q.1 q.2) L.tmps:=by
  rw [l4]; simp
 refine roundIn_of_wpIn trivial ?_
 rw [l5,l6]
 show as.wpIn (Wd (some c)) N C.P _ _ w
 have S0:SRel C ρ { tm:=tm1,h,n,defs:=[] } { tmps:=(L.params.zip xs.toArray).foldl (fun tmps (x:Tmp×Value)=>tmps.setIfInBounds x.1 x.2) L.tmps,defers:=[] } w:=
  ⟨by rw [etm]; exact k1,H,hf,hg,.nil⟩
 refine wpIn_mono (c1 ρ _ w (some c) S0 (.some hρ) N) ?_
 rintro e a1 w1 ⟨rfl,ρ1,e1,S1⟩
 unfold setBusy at hb
 split at hb
 ·rename_i pend1 tm2 ps2 as2 bd2 hl1
  cases hb
  have hρ1:=e1.le _ _ hρ
  obtain ⟨o1,m1,m2⟩:=S1.heap.at hl1 hρ1
  obtain ⟨L1,rfl,n0,n1,n2,n3,n4,n5,n6⟩:=m2.loop_inv
  refine ⟨_,run_beginRound m1 n1,?_⟩
  have e2:Evo ρ1 s1.h s1.n w1 ρ1 (s1.h.set l (.loop .busy pend1 tm2 ps2 as2 bd2)) s1.n (w1.putObj c (.loop { L1 with state:=.busy })):=
   Evo.turn S1.heap _ hl1 hρ1 rfl rfl (.loop n0 rfl n2 n3 n4 n5 n6)
  have S2:SRel C ρ1 { s1 with h:=s1.h.set l (.loop .busy pend1 tm2 ps2 as2 bd2) } a1 (w1.putObj c (.loop { L1 with state:=.busy })):=
   ⟨S1.tm,e2.hrel,S1.fr,S1.glob,S1.defs⟩
  refine wpIn_mono (c2 ρ1 a1 _ (some c) S2 (.some hρ1) N) ?_
  rintro e a2 w2 ⟨rfl,ρ2,e3,S3⟩
  obtain ⟨y,w3,q1,q2,q3⟩:=endRound_run (C:=C) he S3.heap (e3.le _ _ hρ1)
  have fin:Gives ρ h n w v h' n' (.returned y) w3:=⟨ρ2,y,rfl,e1.trans (e2.trans (e3.trans q2)),q3⟩
  cases x <;> exact ⟨y,w3,q1,fin⟩
 ·cases hb
theorem run_enterLoop_inner {P:Program} {w:World} {c:Nat} {L:Loop} (h:w.heap[c]? = some (.loop L)) (fn:FuncId) (tmps:Array Value) (ps:Array Tmp) (assign body:Code) :
  (Instr.enterLoop fn tmps ps assign body (some c)).run P w =
   .ok (w.heap.size,[]) (w.alloc (.loop { state:=.ready,pending:=none,fn,tmps,params:=ps,assign,body,defers:=L.defers })):=by
 unfold Instr.enterLoop
 simp only [Sem.run_bind,run_getLoop h,run_newObj_alloc,Result.andThen,Sem.run_pure]
theorem beginLoop_run {rnd r:Option Nat} {ps:Array Tmp} {assign body:Code} {s:St} {q:Nat×St} (hq:beginLoop rnd ps.toList assign body s=some q) {ρ:Ren} {a:Act} {w:World}
  (S:SRel C ρ s a w) (hr:RRel ρ rnd r) (fn:FuncId) :
  ∃ c mark w1 ρ1,(Instr.enterLoop fn a.tmps ps assign body r).run C.P w=.ok (c,mark) w1∧Evo ρ s.h s.n w ρ1 q.2.h q.2.n w1∧ρ1 q.1=some (c,0,0) ∧
   SRel C ρ1 q.2 { a with defers:=mark++a.defers } w1:=by
 cases hr with
 | none=>
  simp only [beginLoop] at hq
  cases hq
  obtain ⟨ρ1,h1,e1⟩:=Evo.alloc (n:=s.n) (ex:=0) S.heap (S.fr s.n (Nat.le_refl _)) (Nat.le_refl _) (s.n+1) (Nat.lt_succ_self _) (o:=.defd) (x:=.deferred (some [])) rfl (fun ρ' _=>.defd rfl)
  have f1:=S.fr.evo e1
  obtain ⟨ρ2,h2,e2⟩:=Evo.alloc (n:=s.n+1) (ex:=0) e1.hrel (f1 _ (Nat.le_refl _)) (Nat.le_refl _) (s.n+2) (Nat.lt_succ_self _)
   (o:=.loop .ready none s.tm ps.toList assign body) (x:=.loop { state:=.ready,pending:=none,fn,tmps:=a.tmps,params:=ps,assign,body,defers:=w.heap.size })
   rfl (fun ρ' hle=>.loop rfl rfl rfl (S.tm.mono (Ren.le_trans e1.le hle)) (by simp) rfl rfl)
  have ee:=e1.trans e2
  refine ⟨_,_,_,ρ2,run_enterLoop_outer fn a.tmps ps assign body,ee,?_,?_⟩
  ·rw [h2]; simp
  ·exact ⟨S.tm.mono ee.le,ee.hrel,S.fr.evo ee,S.glob.mono ee.le,.cons (e2.le _ _ h1) (S.defs.mono ee.le)⟩
 | @some l c sh ex hl=>
  simp only [beginLoop] at hq
  split at hq
  ·rename_i hg
   cases hq
   obtain ⟨o,g1,g2⟩:=S.heap.at hg hl
   obtain ⟨L,rfl,_⟩:=g2.loop_inv
   obtain ⟨ρ2,h2,e2⟩:=Evo.alloc (n:=s.n) (ex:=0) S.heap (S.fr _ (Nat.le_refl _)) (Nat.le_refl _) (s.n+1) (Nat.lt_succ_self _)
    (o:=.loop .ready none s.tm ps.toList assign body) (x:=.loop { state:=.ready,pending:=none,fn,tmps:=a.tmps,params:=ps,assign,body,defers:=L.defers })
    rfl (fun ρ' hle=>.loop rfl rfl rfl (S.tm.mono hle) (by simp) rfl rfl)
   refine ⟨_,_,_,ρ2,run_enterLoop_inner g1 fn a.tmps ps assign body,e2,h2,?_⟩
   exact ⟨S.tm.mono e2.le,e2.hrel,S.fr.evo e2,S.glob.mono e2.le,S.defs.mono e2.le⟩
  ·cases hq
theorem rangeFunc_sound {rnd:Option Nat} {f:Operand} {ps:Array Tmp} {assign body:Code} {s:St} {g:FuncId} {first caps:List V} {q:Nat×St} {v:V} {h':Heap} {n':Nat} {e:X×Heap}
  (hf:evalT C s.tm f=some (.func (.func g) first caps)) (hq:beginLoop rnd ps.toList assign body s=some q) (hc:CallSound C g (first++[.yield q.1]++caps) q.2.h q.2.n v h' n')
  (he:endLoop q.1 h'=some e):CodeSound C rnd (.rangeFunc f ps assign body) s e.1 { q.2 with h:=e.2,n:=n' }:=by
 intro ρ a w r S hr N
 refine wpIn_rangeFunc fun fn _=>?_
 obtain ⟨c,mark,w1,ρ1,b1,e1,hl,S1⟩:=beginLoop_run hq S hr fn
 have hv:=evalT_rel (a:=a) S.glob (fun t _=>S.tm.get t) hf
 generalize hy:a.eval f=y at hv
 cases hv with | @func _ _ _ xs ys g1 g2=>
 have hargs:VRels ρ1 (first++[.yield q.1]++caps) (xs++[.func (.yield c) #[] #[]]++ys):=((g1.mono e1.le).append (.single (.yield hl))).append (g2.mono e1.le)
 obtain ⟨k1,k2⟩:=hc ρ1 w1 _ hargs S1.heap S1.fr S1.glob
 refine ⟨c,mark,w1,{ target:=.fn (.func g) ys.toArray,args:=xs.toArray++#[Value.func (.yield c) #[] #[]] },w1,g,(xs++[Value.func (.yield c) #[] #[]]++ys).toArray,w1,b1,?_,fun _ _=>trivial,?_,fun h=>by simp [Fence.wide] at h,?_⟩
 ·have hc0:a.eval (.const (.func (.yield c) #[] #[]))=.func (.yield c) #[] #[]:=rfl
  simp [resolve,rangeCall,hy,Deferred.ofValue,hc0]
 ·have:xs.toArray++#[Value.func (.yield c) #[] #[]]++ys.toArray=(xs++[Value.func (.yield c) #[] #[]]++ys).toArray:=by simp
  simp only [invoke,this]
  exact k1
 ·rw [callsIn_wd]
  refine CallsIn.mono (k2 _) ?_
  rintro en w2 ⟨ρ2,z,rfl,e2,_⟩
  obtain ⟨jump,w3,q1,q2,q3⟩:=endLoop_run (C:=C) he n' e2.hrel (e2.le _ _ hl)
  refine ⟨jump,w3,q1,?_⟩
  have ee:=e1.trans (e2.trans q2)
  have fin:∀ x,x=e.1→Post C ρ s w e.1 { q.2 with h:=e.2,n:=n' } (xOf x) { a with defers:=mark++a.defers } w3:=by
   rintro x rfl
   exact ⟨rfl,ρ2,ee,⟨S1.tm.mono e2.le,q2.hrel,S1.fr.evo (e2.trans q2),S1.glob.mono e2.le,S1.defs.mono e2.le⟩⟩
  subst q3
  generalize he1:e.1=x at fin ⊢
  cases x with
  | normal=>exact fin _ rfl
  | exit id=>exact wpIn_exit (fin _ rfl)
  | goto l=>exact wpIn_goto (fin _ rfl)
  | ret=>exact wpIn_ret (fin _ rfl)
theorem call_sound (hC:C.Ok) {f:FuncId} {fn:Func} {c:Code} {args:List V} {h h':Heap} {n:Nat} {x:X} {s:St} {vs:List V} (hf:C.F.get f=some fn) (hb:fn.body=some c)
  (hn:args.length≤fn.ntmps) (hc:CodeSound C none c { tm:=argsTm fn.ntmps 0 args .leaf,h,n,defs:=[] } x s) (hx:x=.normal∨x=.ret)
  (hd:dropDefs s.defs s.h=some h') (hr:resultsOf C s.tm h' fn.results.toList=some vs):CallSound C f args h n (oneOf vs) h' s.n:=by
 intro ρ w xs hxs H hfr hg
 have hfn:=hC.fn f fn hf
 refine ⟨?_,fun N=>?_⟩
 ·simp only [callFunc,Sem.run_bind,run_program,Result.andThen_ok,hfn,hC.names f fn hf,hb]
  simp
 ·refine callsIn_of_wp_marks hfn hb trivial ?_
  have S0:SRel C ρ { tm:=argsTm fn.ntmps 0 args .leaf,h,n,defs:=[] } { tmps:=xs.toArray++Array.replicate (fn.ntmps-xs.toArray.size) undef,defers:=[] } w:=
   ⟨argsTm_rel hxs hn,H,hfr,hg,.nil⟩
  refine wpIn_mono (hc ρ _ w none S0 .none N) ?_
  rintro e a1 w1 ⟨rfl,ρ1,e1,S1⟩
  have fin:LeavesInM Fence.wide N C.P fn a1.tmps (Gives ρ h n w (oneOf vs) h' s.n) a1.defers .returning w1:=by
   refine leaves (n:=s.n) hd S1.defs S1.heap fun w2 e2=>?_
   obtain ⟨y,q1,q2⟩:=results_run hC e2.hrel S1.tm hr
   exact ⟨y,q1,ρ1,y,rfl,e1.trans e2,q2⟩
  rcases hx with rfl | rfl <;> exact fin
end Go.Ev
end
