import Derived.Test.YtaigdhieijndgaaGreatEQ8
import Derived.Below
import Derived.ProofKit
import Derived.OpenShut
import Derived.ChangeSame
section
namespace Go.Ev
variable {C:Ctx}
theorem Post.trans {ρ ρ1:Ren} {s s1 s2:St} {w w1:World} {x:X} {e:Exit} {a:Act} {w2:World} (h:Evo ρ s.h s.n w ρ1 s1.h s1.n w1) (k:Post C ρ1 s1 w1 x s2 e a w2) :
  Post C ρ s w x s2 e a w2:=by
 obtain ⟨rfl,ρ2,e2,S2⟩:=k
 exact ⟨rfl,ρ2,h.trans e2,S2⟩
def LoopSound (C:Ctx) (rnd:Option Nat) (c:Code) (s:St) (x:X) (s':St):Prop:=
 ∀ ρ a w r,SRel C ρ s a w→RRel ρ rnd r→∀ N,InLoop (Wd r) N C.P c (Post C ρ s w x s') a w
def JumpSound (C:Ctx) (rnd:Option Nat) (c:Code) (l:Nat) (s:St) (x:X) (s':St):Prop:=
 ∀ ρ a w r,SRel C ρ s a w→RRel ρ rnd r→∀ N,Jump (Wd r) N C.P c (Post C ρ s w x s') l a w
def SeqSound (C:Ctx) (ops:Array Oper) (i n:Nat) (s s':St):Prop:=
 ∀ ρ a w r,SRel C ρ s a w→∀ N Q,(∀ ρ' a' w',Evo ρ s.h s.n w ρ' s'.h s'.n w'→SRel C ρ' s' a' w'→Q .normal a' w')→wpOpsIn (Wd r) N C.P ops Q (List.range' i n) a w
structure Sound (C:Ctx) (k:Nat):Prop where
 code:∀ rnd c s x s',code C k rnd c s=some (x,s')→CodeSound C rnd c s x s'
 loop:∀ rnd c s x s',Ev.code C k rnd (.loop c) s=some (x,s')→LoopSound C rnd c s x s'
 jump:∀ rnd c l s x s',scope C k rnd c l s=some (x,s')→JumpSound C rnd c l s x s'
 act:∀ o tm h n r,actR C k o tm h n=some r→ActSound C o tm h n r.1 r.2.1 r.2.2
 seq:∀ (ops:Array Oper) l i s s',seqR C k ops.toList l s=some s'→ops.toList.drop i=l→SeqSound C ops i l.length s s'
 round:∀ l args h n r,Ev.round C k l args h n=some r→RoundSound C l args h n r.1 r.2.1 r.2.2
 call:∀ f args h n r,call C k f args h n=some r→CallSound C f args h n r.1 r.2.1 r.2.2
theorem SRel.step {ρ ρ':Ren} {s:St} {a:Act} {w w':World} (S:SRel C ρ s a w) {h':Heap} {n':Nat} (e:Evo ρ s.h s.n w ρ' h' n' w') {dst:Option Tmp} {v:V} {tm:Tm} (hp:s.tm.put dst v=some tm) {y:Value}
  (hy:VRel ρ' v y):SRel C ρ' { s with tm,h:=h',n:=n' } (a.put dst y) w':=by
 obtain ⟨h1,h2⟩:=TmRel.put (S.tm.mono e.le) hp hy
 exact ⟨h1,e.hrel,S.fr.evo e,S.glob.mono e.le,by rw [h2]; exact S.defs.mono e.le⟩
theorem sound_seq (hC:C.Ok) {k:Nat} (ih:Sound C k) (ops:Array Oper) (l:List Oper) (i:Nat) (s s':St) (h:seqR C (k+1) ops.toList l s=some s') (hd:ops.toList.drop i=l):SeqSound C ops i l.length s s':=by
 cases l with
 | nil=>
  simp only [seqR] at h
  cases h
  intro ρ a w r S N Q hQ
  exact hQ ρ a w (.refl _ S.heap) S
 | cons o rest=>
  have ho:ops[i]? = some o:=by
   have:(ops.toList.drop i)[0]? = some o:=by rw [hd]; rfl
   rw [List.getElem?_drop] at this
   simpa using this
  have hd':ops.toList.drop (i+1)=rest:=by
   have:ops.toList.drop (i+1)=(ops.toList.drop i).drop 1:=by rw [List.drop_drop]
   rw [this,hd]; rfl
  intro ρ a w r S N Q hQ
  have hr:List.range' i (o::rest).length=i::List.range' (i+1) rest.length:=by simp [List.range'_succ]
  rw [hr]
  simp only [wpOpsIn,ho]
  have hw:Region.wanted o (yielded ops a.tmps)=wantedT ops.toList s.tm o:=wantedT_eq S.tm.size (fun t _=>S.tm.get t)
  rw [hw]
  have hev:∀ x∈o.op.operands,∀ u,evalT C s.tm x=some u→VRel ρ u (a.eval x):=fun x _ u hu=>evalT_rel S.glob (fun t _=>S.tm.get t) hu
  have on:∀ {ρ':Ren} {w':World} {y:Value} {v:V} {h':Heap} {n':Nat} {tm:Tm},Evo ρ s.h s.n w ρ' h' n' w'→VRel ρ' v y→s.tm.put o.dst v=some tm →
    seqR C k ops.toList rest { s with tm,h:=h',n:=n' }=some s'→wpOpsIn (Wd r) N C.P ops Q (List.range' (i+1) rest.length) (a.put o.dst y) w':=by
   intro ρ' w' y v h' n' tm e hy hp hs
   exact ih.seq ops rest (i+1) _ _ hs hd' ρ' _ w' r (S.step e hp hy) N Q fun ρ2 a2 w2 e2 S2=>hQ ρ2 a2 w2 (e.trans e2) S2
  simp only [seqR] at h
  cases hwt:wantedT ops.toList s.tm o with
  | false=>
   rw [hwt] at h
   simp only [cond_false] at h
   replace h:=of_bind h
   obtain ⟨tm,hp,h⟩:=h
   simp only [Bool.false_eq_true,if_false]
   exact ⟨about_wd r C.P w o a,on (.refl _ S.heap) (.s _) hp h⟩
  | true=>
   rw [hwt] at h
   simp only [cond_true] at h
   simp only [if_true]
   have rdcase:∀ v,rd C (evalT C s.tm) o s.h=some v→∀ tm,s.tm.put o.dst v=some tm→seqR C k ops.toList rest { s with tm }=some s' →
     o.wpIn (Wd r) N C.P a w (wpOpsIn (Wd r) N C.P ops Q (List.range' (i+1) rest.length)) Q:=by
    intro v hv tm hp hs
    obtain ⟨y,h1,h2⟩:=rd_run hC S.heap (σ:=a.eval) hv hev
    exact wpIn_value (rd_noDefer hv) h1 (on (.refl _ S.heap) h2 hp hs)
   split at h
   ·replace h:=of_bind h
    obtain ⟨v,hv,h⟩:=h
    replace h:=of_bind h
    obtain ⟨tm,hp,h⟩:=h
    exact rdcase v hv tm hp h
   ·replace h:=of_bind h
    obtain ⟨v,hv,h⟩:=h
    replace h:=of_bind h
    obtain ⟨tm,hp,h⟩:=h
    exact rdcase v hv tm hp h
   ·replace h:=of_bind h
    obtain ⟨m,hm,h⟩:=h
    replace h:=of_bind h
    obtain ⟨tm,hp,h⟩:=h
    obtain ⟨y,w',ρ',h1,h2,h3⟩:=mk_run hC S.heap (σ:=a.eval) hm hev (S.fr s.n (Nat.le_refl _)) (Nat.le_refl _) (Nat.lt_succ_self _)
    exact wpIn_value (mk_noDefer hm) h1 (on h2 h3 hp h)
   ·replace h:=of_bind h
    obtain ⟨q,hq,h⟩:=h
    replace h:=of_bind h
    obtain ⟨tm,hp,h⟩:=h
    exact ih.act _ _ _ _ _ hq ρ a w r hev S.heap S.fr S.glob N _ _ fun ρ' y w' e hy=>on e hy hp h
theorem sound_act (hC:C.Ok) {k:Nat} (ih:Sound C k) (o:Oper) (tm:Tm) (h:Heap) (n:Nat) (r:V×Heap×Nat) (hr:actR C (k+1) o tm h n=some r):ActSound C o tm h n r.1 r.2.1 r.2.2:=by
 simp only [actR] at hr
 replace hr:=of_bind hr
 obtain ⟨out,ho,hr⟩:=hr
 refine actSound_of hC ho ?_ ?_ ?_
 ·rintro v1 h1 n1 rfl; simp only at hr; cases hr; exact ⟨rfl,rfl,rfl⟩
 ·rintro f args rfl; exact ih.call _ _ _ _ _ hr
 ·rintro l args rfl; exact ih.round _ _ _ _ _ hr
theorem sound_jump {k:Nat} (ih:Sound C k) (rnd:Option Nat) (c:Code) (l:Nat) (s:St) (x:X) (s':St) (h:scope C (k+1) rnd c l s=some (x,s')):JumpSound C rnd c l s x s':=by
 simp only [scope] at h
 intro ρ a w r S hr N
 split at h
 ·rename_i hf
  cases h
  exact jump_none hf ⟨rfl,ρ,.refl _ S.heap,S⟩
 ·rename_i rest hf
  replace h:=of_bind h
  obtain ⟨⟨y,s1⟩,h1,h⟩:=h
  refine jump_some hf (wpIn_mono (ih.code _ _ _ _ _ h1 ρ a w r S hr N) ?_)
  rintro e a1 w1 ⟨rfl,ρ1,e1,S1⟩
  cases y with
  | goto l'=>
   simp only at h
   have:=ih.jump _ _ _ _ _ _ h ρ1 a1 w1 r S1 (hr.mono e1.le) N
   intro b k' cs q1 q2 q3 m hm
   obtain ⟨e,a',w',k1,k2⟩:=this b k' cs q1 q2 q3 m hm
   exact ⟨e,a',w',k1.trans e1,k2⟩
  | normal=>simp only at h; cases h; exact ⟨rfl,ρ1,e1,S1⟩
  | exit id=>simp only at h; cases h; exact ⟨rfl,ρ1,e1,S1⟩
  | ret=>simp only at h; cases h; exact ⟨rfl,ρ1,e1,S1⟩
theorem InLoop.mono {F:Fence} {n:Nat} {P:Program} {c:Code} {Q Q':Exit→Act→World→Prop} {a:Act} {w:World} (h:InLoop F n P c Q a w) (hq:∀ e a w,Q e a w→Q' e a w):InLoop F n P c Q' a w:=
 fun b k cs h1 h2 h3=>let ⟨e,a',w',q,r⟩:=h b k cs h1 h2 h3; ⟨e,a',w',hq _ _ _ q,r⟩
theorem sound_loop {k:Nat} (ih:Sound C k) (rnd:Option Nat) (c:Code) (s:St) (x:X) (s':St) (h:Ev.code C (k+1) rnd (.loop c) s=some (x,s')):LoopSound C rnd c s x s':=by
 simp only [Ev.code] at h
 replace h:=of_bind h
 obtain ⟨⟨y,s1⟩,h1,h⟩:=h
 intro ρ a w r S hr N
 refine inLoop_of_wpIn (wpIn_mono (ih.code _ _ _ _ _ h1 ρ a w r S hr N) ?_)
 rintro e a1 w1 ⟨rfl,ρ1,e1,S1⟩
 cases y with
 | normal=>
  simp only at h
  exact InLoop.mono (ih.loop _ _ _ _ _ h ρ1 a1 w1 r S1 (hr.mono e1.le) N) fun _ _ _ q=>q.trans e1
 | exit id=>simp only at h; cases h; exact ⟨rfl,ρ1,e1,S1⟩
 | goto l=>simp only at h; cases h; exact ⟨rfl,ρ1,e1,S1⟩
 | ret=>simp only at h; cases h; exact ⟨rfl,ρ1,e1,S1⟩
theorem sound_round {k:Nat} (ih:Sound C k) (l:Nat) (args:List V) (h:Heap) (n:Nat) (r:V×Heap×Nat) (hr:Ev.round C (k+1) l args h n=some r):RoundSound C l args h n r.1 r.2.1 r.2.2:=by
 simp only [Ev.round] at hr
 split at hr
 ·rename_i pend tm ps as bd hl
  replace hr:=of_bind hr
  obtain ⟨tm1,hp,hr⟩:=hr
  replace hr:=of_bind hr
  obtain ⟨⟨y,s1⟩,h1,hr⟩:=hr
  cases y with
  | normal=>
   simp only at hr
   replace hr:=of_bind hr
   obtain ⟨hb,h2,hr⟩:=hr
   replace hr:=of_bind hr
   obtain ⟨⟨x,s2⟩,h3,hr⟩:=hr
   exact round_sound hl hp (ih.code _ _ _ _ _ h1) h2 (ih.code _ _ _ _ _ h3) hr
  | exit id=>cases hr
  | goto l=>cases hr
  | ret=>cases hr
 ·cases hr
theorem sound_call (hC:C.Ok) {k:Nat} (ih:Sound C k) (f:FuncId) (args:List V) (h:Heap) (n:Nat) (r:V×Heap×Nat) (hr:call C (k+1) f args h n=some r):CallSound C f args h n r.1 r.2.1 r.2.2:=by
 simp only [call] at hr
 replace hr:=of_bind hr
 obtain ⟨fn,hf,hr⟩:=hr
 split at hr
 ·cases hr
 ·rename_i c hb
  replace hr:=of_cond_some hr
  obtain ⟨hn,hr⟩:=hr
  replace hr:=of_bind hr
  obtain ⟨⟨x,s⟩,h1,hr⟩:=hr
  have fin:x=.normal∨x=.ret→((dropDefs s.defs s.h).bind fun h=>(resultsOf C s.tm h fn.results.toList).bind fun vs=>some (oneOf vs,h,s.n))=some r→CallSound C f args h n r.1 r.2.1 r.2.2:=by
   intro hx hr
   replace hr:=of_bind hr
   obtain ⟨h',hd,hr⟩:=hr
   replace hr:=of_bind hr
   obtain ⟨vs,hv,hr⟩:=hr
   cases hr
   exact call_sound hC hf hb (by simpa using hn) (ih.code _ _ _ _ _ h1) hx hd hv
  cases x with
  | normal=>exact fin (.inl rfl) hr
  | ret=>exact fin (.inr rfl) hr
  | exit id=>cases hr
  | goto l=>cases hr
theorem sound_code (hC:C.Ok) (hmix:C.P.follows .mixedOrders=true) {k:Nat} (ihs:∀ k'≤k,Sound C k') (rnd:Option Nat) (c:Code) (s:St) (x:X) (s':St) (h:Ev.code C (k+1) rnd c s=some (x,s')) :
  CodeSound C rnd c s x s':=by
 have ih:=ihs k (Nat.le_refl _)
 cases c with
 | skip=>simp only [Ev.code] at h; cases h; exact fun ρ a w r S hr N=>wpIn_skip ⟨rfl,ρ,.refl _ S.heap,S⟩
 | label l=>simp only [Ev.code] at h; cases h; exact fun ρ a w r S hr N=>wpIn_label ⟨rfl,ρ,.refl _ S.heap,S⟩
 | exit id=>simp only [Ev.code] at h; cases h; exact fun ρ a w r S hr N=>wpIn_exit ⟨rfl,ρ,.refl _ S.heap,S⟩
 | goto l=>simp only [Ev.code] at h; cases h; exact fun ρ a w r S hr N=>wpIn_goto ⟨rfl,ρ,.refl _ S.heap,S⟩
 | ret=>simp only [Ev.code] at h; cases h; exact fun ρ a w r S hr N=>wpIn_ret ⟨rfl,ρ,.refl _ S.heap,S⟩
 | region id ops draw=>
  cases draw with
  | false=>
   simp only [Ev.code] at h
   replace h:=of_bind h
   obtain ⟨s1,h1,h⟩:=h
   cases h
   intro ρ a w r S hr N
   have:=ih.seq ops ops.toList 0 s s' h1 rfl ρ a w r S N (Post C ρ s w .normal s') fun ρ' a' w' e S'=>⟨rfl,ρ',e,S'⟩
   refine wpIn_region ?_
   rw [List.range_eq_range']
   simpa using this
  | true=>
   simp only [Ev.code] at h
   replace h:=of_bind h
   obtain ⟨p,hp,h⟩:=h
   replace h:=of_bind h
   obtain ⟨d,hd,h⟩:=h
   replace h:=of_bind h
   obtain ⟨t,ht,h⟩:=h
   replace h:=of_cond_some h
   obtain ⟨hch,h⟩:=h
   cases h
   exact region_sound hC hmix hp (fun k' hk=>(ihs k' (by omega)).act) hd ht hch rnd
 | seq a b=>
  simp only [Ev.code] at h
  replace h:=of_bind h
  obtain ⟨⟨y,s1⟩,h1,h⟩:=h
  intro ρ ac w r S hr N
  refine wpIn_seq (wpIn_mono (ih.code _ _ _ _ _ h1 ρ ac w r S hr N) ?_)
  rintro e a1 w1 ⟨rfl,ρ1,e1,S1⟩
  cases y with
  | normal=>
   simp only at h
   exact wpIn_mono (ih.code _ _ _ _ _ h ρ1 a1 w1 r S1 (hr.mono e1.le) N) fun _ _ _ q=>q.trans e1
  | exit id=>simp only at h; cases h; exact ⟨rfl,ρ1,e1,S1⟩
  | goto l=>simp only at h; cases h; exact ⟨rfl,ρ1,e1,S1⟩
  | ret=>simp only at h; cases h; exact ⟨rfl,ρ1,e1,S1⟩
 | cond o a b=>
  simp only [Ev.code] at h
  replace h:=of_bind h
  obtain ⟨v,hv,h⟩:=h
  replace h:=of_bind h
  obtain ⟨t,ht,h⟩:=h
  intro ρ ac w r S hr N
  have e:=asBool_rel ht (evalT_rel (a:=ac) S.glob (fun t _=>S.tm.get t) hv)
  refine wpIn_cond e ?_
  cases t with
  | true=>exact ih.code _ _ _ _ _ h ρ ac w r S hr N
  | false=>exact ih.code _ _ _ _ _ h ρ ac w r S hr N
 | block id body=>
  simp only [Ev.code] at h
  replace h:=of_bind h
  obtain ⟨⟨y,s1⟩,h1,h⟩:=h
  intro ρ ac w r S hr N
  refine wpIn_block (wpIn_mono (ih.code _ _ _ _ _ h1 ρ ac w r S hr N) ?_)
  rintro e a1 w1 ⟨rfl,ρ1,e1,S1⟩
  cases y with
  | normal=>simp only at h; cases h; exact ⟨rfl,ρ1,e1,S1⟩
  | exit id'=>
   simp only at h
   cases hb:Nat.beq id' id with
   | true=>
    rw [hb] at h
    cases h
    have e:id'=id:=by simpa using hb
    simp only [xOf,Exit.inBlock,e,if_true]
    exact ⟨rfl,ρ1,e1,S1⟩
   | false=>
    rw [hb] at h
    cases h
    have e:¬ id'=id:=by simpa using hb
    simp only [xOf,Exit.inBlock,e,if_false]
    exact ⟨rfl,ρ1,e1,S1⟩
  | goto l=>simp only at h; cases h; exact ⟨rfl,ρ1,e1,S1⟩
  | ret=>simp only at h; cases h; exact ⟨rfl,ρ1,e1,S1⟩
 | loop body=>exact fun ρ a w r S hr N=>wpIn_of_inLoop (sound_loop ih rnd body s x s' h ρ a w r S hr N)
 | scope body=>
  simp only [Ev.code] at h
  replace h:=of_bind h
  obtain ⟨⟨y,s1⟩,h1,h⟩:=h
  intro ρ ac w r S hr N
  refine wpIn_scope (wpIn_mono (ih.code _ _ _ _ _ h1 ρ ac w r S hr N) ?_)
  rintro e a1 w1 ⟨rfl,ρ1,e1,S1⟩
  cases y with
  | goto l'=>
   simp only at h
   have:=ih.jump _ _ _ _ _ _ h ρ1 a1 w1 r S1 (hr.mono e1.le) N
   intro b k' cs q1 q2 q3 m hm
   obtain ⟨e,a',w',k1,k2⟩:=this b k' cs q1 q2 q3 m hm
   exact ⟨e,a',w',k1.trans e1,k2⟩
  | normal=>simp only at h; cases h; exact ⟨rfl,ρ1,e1,S1⟩
  | exit id=>simp only at h; cases h; exact ⟨rfl,ρ1,e1,S1⟩
  | ret=>simp only at h; cases h; exact ⟨rfl,ρ1,e1,S1⟩
 | rangeFunc f ps assign body=>
  simp only [Ev.code] at h
  replace h:=of_bind h
  obtain ⟨v,hv,h⟩:=h
  split at h
  ·replace h:=of_bind h
   obtain ⟨q,hq,h⟩:=h
   replace h:=of_bind h
   obtain ⟨q2,hc,h⟩:=h
   replace h:=of_bind h
   obtain ⟨e,he,h⟩:=h
   cases h
   exact rangeFunc_sound hv hq (ih.call _ _ _ _ _ hc) he
  ·cases h
 | refuse _=>simp [Ev.code] at h
theorem sound (hC:C.Ok) (hmix:C.P.follows .mixedOrders=true):∀ k,Sound C k:=by
 intro k
 induction k using Nat.strongRecOn with
 | _ k ih=>
  cases k with
  | zero=>
   refine ⟨?_,?_,?_,?_,?_,?_,?_⟩ <;> intros <;> rename_i h <;> first | (simp [Ev.code] at h; done) | (simp [Ev.scope] at h; done) | (simp [Ev.actR] at h; done) | (simp [Ev.round] at h; done) | (simp [Ev.call] at h; done) | (rename_i h _; simp [Ev.seqR] at h; done) | skip
   all_goals simp_all [Ev.seqR]
  | succ k=>
   have i1:=ih k (Nat.lt_succ_self _)
   exact ⟨sound_code hC hmix (fun k' hk=>ih k' (by omega)),sound_loop i1,sound_jump i1,sound_act hC i1,sound_seq hC i1,sound_round i1,sound_call hC i1⟩
end Go.Ev
end
section
namespace Go.Ev
open Go.ChangeShapes Go.WideShapes Go.ChangeAt Go.RowKit
theorem Evo.below {ρ ρ':Ren} {h':Heap} {n n':Nat} {w w':World} (e:Evo ρ .leaf n w ρ' h' n' w'):Below w.heap.size w w':=
 ⟨e.side.os,e.side.tape,e.side.output,e.size,fun k hk=>e.frame k hk fun b o x h=>by simp [Tree.get] at h⟩
def saysTrue:Option (V×Nat)→Bool
 | some (.s (.bool b),_)=>b
 | _=>false
end Go.Ev
end
section
namespace Go.Ev
variable {C:Ctx}
theorem of_eq {α:Type} {a b:α} (h:a=b):a=b:=h
def oK {α:Type} (x:Option α) (K:α→Prop):Prop:=
 match x with
 | some a=>K a
 | none=>False
@[simp] theorem oK_some {α:Type} (a:α) (K:α→Prop):oK (some a) K=K a:=of_eq rfl
theorem oK_of {α:Type} {x:Option α} {a:α} {K:α→Prop} (h:x=some a) (k:K a):oK x K:=by rw [h]; exact k
theorem of_oK {α:Type} {x:Option α} {K:α→Prop} (h:oK x K):∃ a,x=some a∧K a:=by
 cases x with
 | none=>exact h.elim
 | some a=>exact ⟨a,rfl,h⟩
structure CallK (C:Ctx) (f:FuncId) (args:List V) (h:Heap) (n:Nat) (K:V→Heap→Nat→Prop):Prop where
 run:∀ ρ w xs,VRels ρ args xs→HRel ρ h w→Fr ρ n→GRel C ρ →
  (callFunc f xs.toArray).run C.P w=.ok (.enter f xs.toArray) w ∧
   ∀ N,CallsIn Fence.wide N C.P f xs.toArray w (fun e w'=>∃ v h' n',K v h' n'∧Gives ρ h n w v h' n' e w')
def RoundK (C:Ctx) (l:Nat) (args:List V) (h:Heap) (n:Nat) (K:V→Heap→Nat→Prop):Prop:=
 ∀ ρ w c sh ex xs,ρ l=some (c,sh,ex)→VRels ρ args xs→HRel ρ h w→Fr ρ n→GRel C ρ →
  ∃ f tmps assign body,(Instr.yield c xs.toArray).run C.P w=.ok (.round c f tmps assign body) w ∧
   ∀ N,RoundIn Fence.wide N C.P c f tmps assign body w (fun e w'=>∃ v h' n',K v h' n'∧Gives ρ h n w v h' n' e w')
def ActK (C:Ctx) (o:Oper) (tm:Tm) (h:Heap) (n:Nat) (K:V→Heap→Nat→Prop):Prop:=
 ∀ ρ a w r,(∀ x∈o.op.operands,∀ u,evalT C tm x=some u→VRel ρ u (a.eval x))→HRel ρ h w→Fr ρ n→GRel C ρ →
  ∀ N next Q,(∀ ρ' y w' v h' n',K v h' n'→Evo ρ h n w ρ' h' n' w'→VRel ρ' v y→next (a.put o.dst y) w')→o.wpIn (Wd r) N C.P a w next Q
def normV:V→V
 | .agg r=>.agg (.lst r.toList)
 | v=>v
def normO (x:Option V):Option V:=
 match x with
 | some v=>some (normV v)
 | none=>none
def normOb:O→O
 | .cells r es=>.cells (.lst r.toList) es
 | o=>o
def normB (v:V) (h:Heap):Heap:=
 match v with
 | .slice b _ _ _ _=>match h.get b with
  | some (.cells r es)=>h.set b (.cells (.lst r.toList) es)
  | _=>h
 | _=>h
theorem normV_rel {ρ:Ren} {v:V} {y:Value} (h:VRel ρ v y):VRel ρ (normV v) y:=by
 cases v with
 | agg r=>cases h with | agg hok h1 hc=>exact .agg trivial h1 hc
 | _=>exact h
def rdN (C:Ctx) (ev:Operand→Option V) (o:Oper) (h:Heap):Option V:=
 match o.op with
 | .build ..=>normO (rd C ev o h)
 | .load ..=>normO (rd C ev o h)
 | _=>rd C ev o h
theorem of_normO {x:Option V} {v:V} (h:normO x=some v):∃ v0,x=some v0∧v=normV v0:=by
 cases x with
 | none=>cases h
 | some v0=>cases h; exact ⟨v0,rfl,rfl⟩
theorem of_rdN {ev:Operand→Option V} {o:Oper} {h:Heap} {v:V} (hr:rdN C ev o h=some v):∃ v0,rd C ev o h=some v0∧∀ (ρ:Ren) (y:Value),VRel ρ v0 y→VRel ρ v y:=by
 unfold rdN at hr
 split at hr
 ·obtain ⟨v0,h1,rfl⟩:=of_normO hr; exact ⟨v0,h1,fun _ _ h=>normV_rel h⟩
 ·obtain ⟨v0,h1,rfl⟩:=of_normO hr; exact ⟨v0,h1,fun _ _ h=>normV_rel h⟩
 ·exact ⟨v,hr,fun _ _ h=>h⟩
theorem ORel.norm {ρ:Ren} {sh ex:Nat} {o:O} {x:Obj} (h:ORel ρ sh ex o x):ORel ρ sh ex (normOb o) x:=by
 cases h with
 | cells hok pre mid post ha hp hm hc hx hz=>exact .cells trivial pre mid post ha hp hm hc hx hz
 | map hs h=>exact .map hs h
 | mapIterNil hs=>exact .mapIterNil hs
 | mapIter hs h=>exact .mapIter hs h
 | strIter hs=>exact .strIter hs
 | loop hs h1 h2 h3 h4 h5 h6=>exact .loop hs h1 h2 h3 h4 h5 h6
 | defd hs=>exact .defd hs
 | ro hok pre mid post ha hp hm hc=>exact .ro hok pre mid post ha hp hm hc
 | roMap hs h=>exact .roMap hs h
theorem normOb_own (o:O):(normOb o).own=o.own:=by cases o <;> rfl
theorem normOb_ro {o:O} (h:o.own=false):normOb o=o:=by cases o <;> first | rfl | cases h
theorem HRel.norm {ρ:Ren} {h:Heap} {w:World} (H:HRel ρ h w) {b:Nat} {o:O} (hb:h.get b=some o):HRel ρ (h.set b (normOb o)) w:=by
 have f:∀ j oj,(h.set b (normOb o)).get j=some oj→∃ oj',h.get j=some oj'∧oj.own=oj'.own∧(∀ sh ex x,ORel ρ sh ex oj' x→ORel ρ sh ex oj x):=by
  intro j oj hj
  rw [Tree.get_set] at hj
  by_cases e:j=b
  ·rw [if_pos e] at hj; cases hj
   exact ⟨o,e ▸ hb,normOb_own o,fun _ _ _ h=>h.norm⟩
  ·rw [if_neg e] at hj; exact ⟨oj,hj,rfl,fun _ _ _ h=>h⟩
 refine ⟨fun j oj hj=>?_,fun j j' oj oj' x x' h1 h2 ho=>?_⟩
 ·obtain ⟨p,g1,_,g3⟩:=f j oj hj
  obtain ⟨c,sh,ex,x,k1,k2,k3⟩:=H.obj j p g1
  exact ⟨c,sh,ex,x,k1,k2,g3 _ _ _ k3⟩
 ·obtain ⟨p,g1,g2,_⟩:=f j oj h1
  obtain ⟨q,k1,_⟩:=f j' oj' h2
  exact H.inj j j' p q x x' g1 k1 (by rw [← g2]; exact ho)
theorem Evo.norm {ρ ρ':Ren} {h h1:Heap} {n n':Nat} {w w':World} (e:Evo ρ h n w ρ' h1 n' w') {b:Nat} {o:O} (hb:h1.get b=some o):Evo ρ h n w ρ' (h1.set b (normOb o)) n' w':=by
 refine ⟨e.le,e.new,e.num,e.hrel.norm hb,e.size,e.frame,fun j oj x hj ho hr=>?_,fun j oj hj ho=>?_,e.side⟩
 ·rw [Tree.get_set] at hj
  by_cases q:j=b
  ·rw [if_pos q] at hj; cases hj
   exact e.dom j o x (q ▸ hb) (by rw [← normOb_own]; exact ho) hr
  ·rw [if_neg q] at hj; exact e.dom j oj x hj ho hr
 ·rw [Tree.get_set] at hj
  by_cases q:j=b
  ·rw [if_pos q] at hj; cases hj
   rw [normOb_own] at ho
   rw [normOb_ro ho]
   exact e.ros j o (q ▸ hb) ho
  ·rw [if_neg q] at hj; exact e.ros j oj hj ho
theorem Evo.normB {ρ ρ':Ren} {h h1:Heap} {n n':Nat} {w w':World} (e:Evo ρ h n w ρ' h1 n' w') (v:V):Evo ρ h n w ρ' (Ev.normB v h1) n' w':=by
 unfold Ev.normB
 split
 ·split
  ·rename_i b off len cap op r es hb; exact e.norm hb
  ·exact e
 ·exact e
def outK (C:Ctx) (h:Heap) (n:Nat) (K:V→Heap→Nat→Prop):Out→Prop
 | .val v h' n'=>K v h' n'
 | .enter f args=>CallK C f args h n K
 | .round l args=>RoundK C l args h n K
def outK2 (C:Ctx) (h:Heap) (n:Nat) (K:V→Heap→Nat→Prop):Out→Prop
 | .val v h' n'=>K v h' n'∨K v (normB v h') n'
 | .enter f args=>CallK C f args h n K
 | .round l args=>RoundK C l args h n K
theorem outK.two {h:Heap} {n:Nat} {K:V→Heap→Nat→Prop} {out:Out} (k:outK C h n K out):outK2 C h n K out:=by
 cases out with
 | val v h' n'=>exact .inl k
 | enter f args=>exact k
 | round l args=>exact k
theorem actK_of {o:Oper} {tm:Tm} {h:Heap} {n:Nat} {out:Out} (hC:C.Ok) (hr:act C (evalT C tm) o h n=some out) {K:V→Heap→Nat→Prop} (hK:outK2 C h n K out):ActK C o tm h n K:=by
 intro ρ a w r hev H hf hg N next Q hnext
 have:=act_run hC H hf hr (σ:=a.eval) hev
 have hd:=act_noDefer hr
 refine ⟨about_wd r C.P w o a,?_⟩
 rw [Oper.semAt_eq _ _ _ hd]
 cases out with
 | val v1 h1 n1=>
  obtain ⟨y,w',ρ',hrun,e1,e2⟩:=this
  rcases hK with hK | hK
  ·rcases hrun with hrun | ⟨hrun,rfl⟩
   ·rw [hrun]; exact hnext _ _ _ _ _ _ hK e1 e2
   ·rw [hrun]; exact hnext _ _ _ _ _ _ hK e1 e2
  ·rcases hrun with hrun | ⟨hrun,rfl⟩
   ·rw [hrun]; exact hnext _ _ _ _ _ _ hK (e1.normB v1) e2
   ·rw [hrun]; exact hnext _ _ _ _ _ _ hK (e1.normB v1) e2
 | enter f args=>
  obtain ⟨xs,hrun,e1⟩:=this
  obtain ⟨g1,g2⟩:=hK.run ρ w xs e1 H hf hg
  rw [hrun,g1]
  refine ⟨fun h=>by simp [Fence.wide] at h,?_⟩
  rw [callsIn_wd]
  refine CallsIn.mono (g2 _) ?_
  rintro e w' ⟨v,h',n',k0,ρ',y,rfl,k1,k2⟩
  exact hnext _ _ _ _ _ _ k0 k1 k2
 | round l args=>
  obtain ⟨c,sh,ex,xs,hl,hrun,e1⟩:=this
  obtain ⟨f,tmps,as,bd,g1,g2⟩:=hK ρ w c sh ex xs hl e1 H hf hg
  rw [hrun,g1]
  refine ⟨fun h=>by simp [Fence.wide] at h,?_⟩
  rw [roundIn_wd]
  refine RoundIn.mono (g2 _) ?_
  rintro e w' ⟨v,h',n',k0,ρ',y,rfl,k1,k2⟩
  exact hnext _ _ _ _ _ _ k0 k1 k2
def callV (C:Ctx) (f:V) (args:List V) (h:Heap) (n:Nat) (K:V→Heap→Nat→Prop):Prop:=
 match f with
 | .func (.func g) first caps=>match C.X.get g with
  | some true=>oK (compareB h n ((first++args)++caps)) (outK C h n K)
  | _=>CallK C g ((first++args)++caps) h n K
 | .func fn first caps=>oK (callFn C h n fn (first++args) caps) (outK C h n K)
 | .yield l=>RoundK C l args h n K
 | _=>False
def invokeW (C:Ctx) (r:V) (m:String) (args:List V) (h:Heap) (n:Nat) (K:V→Heap→Nat→Prop):Prop:=
 match r with
 | .iface t x=>oK (methodOf C t x m) fun q=>CallK C q.1 (q.2::args) h n K
 | _=>False
def actW (C:Ctx) (ev:Operand→Option V) (o:Oper) (h:Heap) (n:Nat) (K:V→Heap→Nat→Prop):Prop:=
 match o.op with
 | .store t a x=>oK ((ev a).bind asPtr) fun p=>oK (ev x) fun v=>oK (store C h t p.1 p.2 v) fun h=>K undefV h n
 | .insert t m k x | .mapUpdate t m k x=>oK (ev m) fun m=>oK (ev k) fun k=>oK (ev x) fun x=>oK (mapUpdate C h t m k x) fun h=>K undefV h n
 | .call c=>oK (evs ev c.args.toList) fun args=>
  match c.callee with
  | .value f=>oK (ev f) fun f=>callV C f args h n K
  | .invoke r m=>oK (ev r) fun r=>invokeW C r m args h n K
  | .builtin .append=>match args with
   | [a,x]=>oK (c.argTypes[0]?) fun t0=>oK (c.argTypes[1]?) fun t1=>oK (append C h n t0 t1 a x) fun r=>K r.1 (normB r.1 r.2.1) r.2.2
   | _=>False
  | .builtin .copy=>match args with
   | [a,x]=>oK (c.argTypes[0]?) fun t0=>oK (copy C h t0 a x) fun r=>K r.1 r.2 n
   | _=>False
  | .builtin .delete=>match args with
   | [m,k]=>oK (c.argTypes[0]?) fun t0=>oK (mapDelete C h t0 m k) fun h=>K undefV h n
   | _=>False
  | _=>oK (act C ev o h n) (outK C h n K)
 | _=>oK (act C ev o h n) (outK C h n K)
theorem actW_act {ev:Operand→Option V} {o:Oper} {h:Heap} {n:Nat} {K:V→Heap→Nat→Prop} (hw:actW C ev o h n K):∃ out,act C ev o h n=some out∧outK2 C h n K out:=by
 unfold actW at hw
 unfold act
 split at hw
 ·rename_i t a x e
  obtain ⟨p,h1,hw⟩:=of_oK hw
  obtain ⟨v,h2,hw⟩:=of_oK hw
  obtain ⟨h',h3,hw⟩:=of_oK hw
  obtain ⟨u,h4,h5⟩:=of_bind h1
  exact ⟨.val undefV h' n,by simp only [e,h4,h5,h2,h3,Option.bind_some],.inl hw⟩
 ·rename_i t m k x e
  obtain ⟨m',h1,hw⟩:=of_oK hw
  obtain ⟨k',h2,hw⟩:=of_oK hw
  obtain ⟨x',h3,hw⟩:=of_oK hw
  obtain ⟨h',h4,hw⟩:=of_oK hw
  exact ⟨.val undefV h' n,by simp only [e,h1,h2,h3,h4,Option.bind_some],.inl hw⟩
 ·rename_i t m k x e
  obtain ⟨m',h1,hw⟩:=of_oK hw
  obtain ⟨k',h2,hw⟩:=of_oK hw
  obtain ⟨x',h3,hw⟩:=of_oK hw
  obtain ⟨h',h4,hw⟩:=of_oK hw
  exact ⟨.val undefV h' n,by simp only [e,h1,h2,h3,h4,Option.bind_some],.inl hw⟩
 ·rename_i c e
  obtain ⟨args,h1,hw⟩:=of_oK hw
  split at hw
  ·rename_i f ec
   obtain ⟨v,h2,hw⟩:=of_oK hw
   unfold callV at hw
   split at hw
   ·rename_i g first caps
    split at hw
    ·rename_i hx
     obtain ⟨out,h3,hw⟩:=of_oK hw
     exact ⟨out,by simp only [e,h1,ec,h2,Option.bind_some,callFn,hx,h3],hw.two⟩
    ·rename_i hx
     refine ⟨.enter g ((first++args)++caps),?_,hw⟩
     simp only [e,h1,ec,h2,Option.bind_some,callFn]
   ·rename_i fn first caps _
    obtain ⟨out,h3,hw⟩:=of_oK hw
    exact ⟨out,by simp only [e,h1,ec,h2,Option.bind_some,h3],hw.two⟩
   ·rename_i l
    exact ⟨.round l args,by simp only [e,h1,ec,h2,Option.bind_some],hw⟩
   ·exact hw.elim
  ·rename_i r m ec
   obtain ⟨v,h2,hw⟩:=of_oK hw
   unfold invokeW at hw
   split at hw
   ·rename_i t x
    obtain ⟨q,h3,hw⟩:=of_oK hw
    exact ⟨.enter q.1 (q.2::args),by simp only [e,h1,ec,h2,h3,Option.bind_some],hw⟩
   ·exact hw.elim
  ·rename_i ec
   split at hw
   ·rename_i a x
    obtain ⟨t0,h2,hw⟩:=of_oK hw
    obtain ⟨t1,h3,hw⟩:=of_oK hw
    obtain ⟨r,h4,hw⟩:=of_oK hw
    exact ⟨.val r.1 r.2.1 r.2.2,by simp only [e,h1,ec,h2,h3,h4,Option.bind_some],.inr hw⟩
   ·exact hw.elim
  ·rename_i ec
   split at hw
   ·rename_i a x
    obtain ⟨t0,h2,hw⟩:=of_oK hw
    obtain ⟨r,h4,hw⟩:=of_oK hw
    exact ⟨.val r.1 r.2 n,by simp only [e,h1,ec,h2,h4,Option.bind_some],.inl hw⟩
   ·exact hw.elim
  ·rename_i ec
   split at hw
   ·rename_i a x
    obtain ⟨t0,h2,hw⟩:=of_oK hw
    obtain ⟨r,h4,hw⟩:=of_oK hw
    exact ⟨.val undefV r n,by simp only [e,h1,ec,h2,h4,Option.bind_some],.inl hw⟩
   ·exact hw.elim
  ·obtain ⟨out,h2,hw⟩:=of_oK hw
   exact ⟨out,by simpa only [act] using h2,hw.two⟩
 ·obtain ⟨out,h2,hw⟩:=of_oK hw
  exact ⟨out,by simpa only [act] using h2,hw.two⟩
theorem actW_sound (hC:C.Ok) {o:Oper} {tm:Tm} {h:Heap} {n:Nat} {K:V→Heap→Nat→Prop} (hw:actW C (evalT C tm) o h n K):ActK C o tm h n K:=by
 obtain ⟨out,h1,h2⟩:=actW_act hw
 exact actK_of hC h1 h2
def makeO (C:Ctx) (ev:Operand→Option V) (o:Oper) (n:Nat) (K:V→O→Prop):Prop:=
 match o.op with
 | .alloc t=>oK (ty C t) fun i=>oK i.zero fun z=>oK z.cells fun zs=>K (.ptr n 0) (.cells zs i.size)
 | .box t x=>oK (ev x) fun v=>oK (ty C t) fun i=>oK v.cells fun cs=>K (.ptr n 0) (.cells cs i.size)
 | .makeSlice t l c=>oK (ty C t) fun i=>
  match i.desc with
  | .slice e=>oK (ty C e) fun j=>oK j.zero fun z=>oK z.cells fun zs=>oK (ev l) fun l=>oK (asNat l) fun l=>oK (ev c) fun c=>oK (asNat c) fun c=>
   bif Nat.ble l c && (Nat.ble (j.bytes*c) 281474976710656 && (Nat.blt c 9223372036854775808 && (!Nat.beq j.size 0 && Nat.beq zs.size j.size))) then
    K (.slice n 0 l c false) (.cells (zs.rep c) j.size) else False
  | _=>False
 | .buildSlice t len ps=>oK (ty C t) fun i=>
  match i.desc with
  | .slice e=>oK (ty C e) fun j=>oK j.zero fun z=>oK z.cells fun zs=>oK (evp ev ps.toList) fun vs=>
   bif Nat.ble (len*j.size) 16777216 && (!Nat.beq j.size 0 && Nat.beq zs.size j.size) then
    oK (fillA j.size (zs.rep len) vs) fun r=>K (.slice n 0 len len false) (.cells r j.size)
   else False
  | _=>False
 | _=>oK (mk C ev o) fun m=>K (m.2.val n) m.1
theorem makeO_mk {ev:Operand→Option V} {o:Oper} {n:Nat} {K:V→O→Prop} (hw:makeO C ev o n K):∃ m,mk C ev o=some m∧K (m.2.val n) m.1:=by
 unfold makeO at hw
 unfold mk
 split at hw
 ·rename_i t e
  obtain ⟨i,h1,hw⟩:=of_oK hw
  obtain ⟨z,h2,hw⟩:=of_oK hw
  obtain ⟨zs,h3,hw⟩:=of_oK hw
  exact ⟨(.cells zs i.size,.ptr),by simp only [e,h1,h2,h3,Option.bind_some],hw⟩
 ·rename_i t x e
  obtain ⟨v,h1,hw⟩:=of_oK hw
  obtain ⟨i,h2,hw⟩:=of_oK hw
  obtain ⟨cs,h3,hw⟩:=of_oK hw
  exact ⟨(.cells cs i.size,.ptr),by simp only [e,h1,h2,h3,Option.bind_some],hw⟩
 ·rename_i t l c e
  obtain ⟨i,h1,hw⟩:=of_oK hw
  split at hw
  ·rename_i el ed
   obtain ⟨j,h2,hw⟩:=of_oK hw
   obtain ⟨z,h3,hw⟩:=of_oK hw
   obtain ⟨zs,h4,hw⟩:=of_oK hw
   obtain ⟨l',h5,hw⟩:=of_oK hw
   obtain ⟨l'',h6,hw⟩:=of_oK hw
   obtain ⟨c',h7,hw⟩:=of_oK hw
   obtain ⟨c'',h8,hw⟩:=of_oK hw
   cases hb:(Nat.ble l'' c'' && (Nat.ble (j.bytes*c'') 281474976710656 && (Nat.blt c'' 9223372036854775808 && (!Nat.beq j.size 0 && Nat.beq zs.size j.size)))) with
   | false=>rw [hb] at hw; exact hw.elim
   | true=>
    rw [hb] at hw
    exact ⟨(.cells (zs.rep c'') j.size,.slice l'' c'' false),by simp only [e,h1,ed,h2,h3,h4,h5,h6,h7,h8,hb,Option.bind_some,cond_true],hw⟩
  ·exact hw.elim
 ·rename_i t len ps e
  obtain ⟨i,h1,hw⟩:=of_oK hw
  split at hw
  ·rename_i el ed
   obtain ⟨j,h2,hw⟩:=of_oK hw
   obtain ⟨z,h3,hw⟩:=of_oK hw
   obtain ⟨zs,h4,hw⟩:=of_oK hw
   obtain ⟨vs,h5,hw⟩:=of_oK hw
   cases hb:(Nat.ble (len*j.size) 16777216 && (!Nat.beq j.size 0 && Nat.beq zs.size j.size)) with
   | false=>rw [hb] at hw; exact hw.elim
   | true=>
    rw [hb] at hw
    simp only [cond_true] at hw
    obtain ⟨r,h6,hw⟩:=of_oK hw
    exact ⟨(.cells r j.size,.slice len len false),by simp only [e,h1,ed,h2,h3,h4,h5,h6,hb,Option.bind_some,cond_true],hw⟩
  ·exact hw.elim
 ·obtain ⟨m,h2,hw⟩:=of_oK hw
  exact ⟨m,by simpa only [mk] using h2,hw⟩
def putW (tm:Tm) (dst:Option Tmp) (v:V) (K:Tm→Prop):Prop:=oK (tm.put dst v) K
def wpOps (C:Ctx) (ops:List Oper):List Oper→St→(St→Prop)→Prop
 | [],s,Q=>Q s
 | o::rest,s,Q=>
  match kindOf C o with
  | .quiet | .read=>oK (bif wantedT ops s.tm o then rdN C (evalT C s.tm) o s.h else some undefV) fun v=>
    putW s.tm o.dst v fun tm=>wpOps C ops rest { s with tm } Q
  | .make=>bif wantedT ops s.tm o then
    makeO C (evalT C s.tm) o s.n fun v ob=>putW s.tm o.dst v fun tm=>wpOps C ops rest { s with tm,h:=s.h.set s.n (normOb ob),n:=s.n+1 } Q
   else putW s.tm o.dst undefV fun tm=>wpOps C ops rest { s with tm } Q
  | .act=>bif wantedT ops s.tm o then
    actW C (evalT C s.tm) o s.h s.n fun v h n=>putW s.tm o.dst v fun tm=>wpOps C ops rest { s with tm,h,n } Q
   else putW s.tm o.dst undefV fun tm=>wpOps C ops rest { s with tm } Q
def PostK (C:Ctx) (ρ:Ren) (s:St) (w:World) (Q:X→St→Prop):Exit→Act→World→Prop:=
 fun e a' w'=>∃ x s',Q x s'∧Post C ρ s w x s' e a' w'
def CodeK (C:Ctx) (rnd:Option Nat) (c:Code) (s:St) (Q:X→St→Prop):Prop:=
 ∀ ρ a w r,SRel C ρ s a w→RRel ρ rnd r→∀ N,c.wpIn (Wd r) N C.P (PostK C ρ s w Q) a w
structure LoopK (C:Ctx) (rnd:Option Nat) (c:Code) (s:St) (Q:X→St→Prop):Prop where
 run :  ∀ ρ a w r,SRel C ρ s a w→RRel ρ rnd r→∀ N,InLoop (Wd r) N C.P c (PostK C ρ s w Q) a w
theorem PostK.trans {ρ ρ1:Ren} {s s1:St} {w w1:World} {Q:X→St→Prop} {e:Exit} {a:Act} {w2:World} (h:Evo ρ s.h s.n w ρ1 s1.h s1.n w1) (k:PostK C ρ1 s1 w1 Q e a w2) :
  PostK C ρ s w Q e a w2:=by
 obtain ⟨x,s',hq,k⟩:=k
 exact ⟨x,s',hq,k.trans h⟩
theorem wpOps_sound (hC:C.Ok) {ops:Array Oper}:∀ (l:List Oper) (i:Nat) (s:St) (Q:St→Prop),ops.toList.drop i=l→wpOps C ops.toList l s Q →
  ∀ ρ a w r,SRel C ρ s a w→∀ N R,(∀ ρ' a' w' s',Q s'→Evo ρ s.h s.n w ρ' s'.h s'.n w'→SRel C ρ' s' a' w'→R .normal a' w') →
   wpOpsIn (Wd r) N C.P ops R (List.range' i l.length) a w
 | [],i,s,Q,_,hw,ρ,a,w,r,S,N,R,hQ=>hQ ρ a w s hw (.refl _ S.heap) S
 | o::rest,i,s,Q,hd,hw,ρ,a,w,r,S,N,R,hQ=>by
  have ho:ops[i]? = some o:=by
   have:(ops.toList.drop i)[0]? = some o:=by rw [hd]; rfl
   rw [List.getElem?_drop] at this
   simpa using this
  have hd':ops.toList.drop (i+1)=rest:=by
   have:ops.toList.drop (i+1)=(ops.toList.drop i).drop 1:=by rw [List.drop_drop]
   rw [this,hd]; rfl
  have hr:List.range' i (o::rest).length=i::List.range' (i+1) rest.length:=by simp [List.range'_succ]
  rw [hr]
  simp only [wpOpsIn,ho]
  have hwd:Region.wanted o (yielded ops a.tmps)=wantedT ops.toList s.tm o:=wantedT_eq S.tm.size (fun t _=>S.tm.get t)
  rw [hwd]
  have hev:∀ x∈o.op.operands,∀ u,evalT C s.tm x=some u→VRel ρ u (a.eval x):=fun x _ u hu=>evalT_rel S.glob (fun t _=>S.tm.get t) hu
  have on:∀ {ρ':Ren} {w':World} {y:Value} {v:V} {h':Heap} {n':Nat},Evo ρ s.h s.n w ρ' h' n' w'→VRel ρ' v y→(putW s.tm o.dst v fun tm=>wpOps C ops.toList rest { s with tm,h:=h',n:=n' } Q) →
    wpOpsIn (Wd r) N C.P ops R (List.range' (i+1) rest.length) (a.put o.dst y) w':=by
   intro ρ' w' y v h' n' e hy hp
   obtain ⟨tm,hp,hs⟩:=of_oK hp
   exact wpOps_sound hC rest (i+1) _ _ hd' hs ρ' _ w' r (S.step e hp hy) N R fun ρ2 a2 w2 s2 q e2 S2=>hQ ρ2 a2 w2 s2 q (e.trans e2) S2
  simp only [wpOps] at hw
  have rdcase:(oK (bif wantedT ops.toList s.tm o then rdN C (evalT C s.tm) o s.h else some undefV) fun v=>putW s.tm o.dst v fun tm=>wpOps C ops.toList rest { s with tm } Q) →
    if wantedT ops.toList s.tm o=true then o.wpIn (Wd r) N C.P a w (wpOpsIn (Wd r) N C.P ops R (List.range' (i+1) rest.length)) R
    else (∀ f,o.about C.P w a.eval=some f→(Wd r).fn f)∧wpOpsIn (Wd r) N C.P ops R (List.range' (i+1) rest.length) (a.put o.dst undef) w:=by
   intro hw
   obtain ⟨v,hv,hw⟩:=of_oK hw
   cases hwt:wantedT ops.toList s.tm o with
   | false=>
    rw [hwt] at hv
    simp only [cond_false] at hv
    cases hv
    simp only [Bool.false_eq_true,if_false]
    exact ⟨about_wd r C.P w o a,on (.refl _ S.heap) (.s _) hw⟩
   | true=>
    rw [hwt] at hv
    simp only [cond_true] at hv
    simp only [if_true]
    obtain ⟨v0,hv,hn⟩:=of_rdN hv
    obtain ⟨y,h1,h2⟩:=rd_run hC S.heap (σ:=a.eval) hv hev
    exact wpIn_value (rd_noDefer hv) h1 (on (.refl _ S.heap) (hn _ _ h2) hw)
  split at hw
  ·exact rdcase hw
  ·exact rdcase hw
  ·cases hwt:wantedT ops.toList s.tm o with
   | false=>
    rw [hwt] at hw
    simp only [cond_false] at hw
    simp only [Bool.false_eq_true,if_false]
    exact ⟨about_wd r C.P w o a,on (.refl _ S.heap) (.s _) hw⟩
   | true=>
    rw [hwt] at hw
    simp only [cond_true] at hw
    simp only [if_true]
    obtain ⟨m,hm,hw⟩:=makeO_mk hw
    obtain ⟨y,w',ρ',h1,h2,h3⟩:=mk_run hC S.heap (σ:=a.eval) hm hev (S.fr s.n (Nat.le_refl _)) (Nat.le_refl _) (Nat.lt_succ_self _)
    have h2':=h2.norm (b:=s.n) (o:=m.1) (by rw [Tree.get_set_same])
    have h2'':=h2'.congr (h2:=s.h.set s.n (normOb m.1)) (fun b=>by simp only [Tree.get_set]; split <;> rfl)
    exact wpIn_value (mk_noDefer hm) h1 (on h2'' h3 hw)
  ·cases hwt:wantedT ops.toList s.tm o with
   | false=>
    rw [hwt] at hw
    simp only [cond_false] at hw
    simp only [Bool.false_eq_true,if_false]
    exact ⟨about_wd r C.P w o a,on (.refl _ S.heap) (.s _) hw⟩
   | true=>
    rw [hwt] at hw
    simp only [cond_true] at hw
    simp only [if_true]
    exact actW_sound hC hw ρ a w r hev S.heap S.fr S.glob N _ _ fun ρ' y w' v h' n' hw e hy=>on e hy hw
def mkTm (vs:List V):Tm:={ n:=vs.length,t:=.ofList vs }
theorem mkTm_get (vs:List V) (i:Nat):(mkTm vs).get i=(vs[i]?).getD undefV:=by
 simp only [mkTm,Tm.get,Tree.get_ofList]
def rPick (c a b:V):Option V:=(asBool c).bind fun c=>bif c then some a else some b
def rLoad (C:Ctx) (t:TypeId) (h:Heap) (a:V):Option V:=(asPtr a).bind fun p=>load C h t p.1 p.2
def rNil (v:V):Option V:=
 match v with
 | .ptr .. | .func (.func _) _ _ | .iface ..=>some v
 | _=>none
def rUn (C:Ctx) (op:UnOp) (v:V):Option V:=
 match v with
 | .s a=>(pure? C.P (Op.unary op a)).bind fun r=>some (.s r)
 | _=>none
def rFA (C:Ctx) (st:TypeId) (f:Nat) (v:V):Option V:=(asPtr v).bind fun p=>(ty C st).bind fun i=>
 match i.desc with
 | .struct fs=>(placeOf C fs f).bind fun q=>bif Nat.beq q.2.size 0 then none else some (.ptr p.1 (p.2+q.1.offset))
 | _=>none
def rF (C:Ctx) (st:TypeId) (f:Nat) (v:V):Option V:=(ty C st).bind fun i=>
 match i.desc,v with
 | .struct fs,.agg cs=>(placeOf C fs f).bind fun q=>part q.2 cs q.1.offset
 | _,_=>none
def rExt (v:V) (i:Nat):Option V:=
 match v with
 | .tup vs=>vs[i]?
 | _=>none
def rWant (want:Bool) (v:V):Bool:=
 match v with
 | .s (.bool b)=>b == want
 | _=>false
def rMin (C:Ctx) (ats:Array TypeId) (t:TypeId) (xs:List V):Option V:=(scalars xs).bind fun ys=>(pure? C.P (Builtin.min_ ats t ys.toArray)).bind fun v=>some (.s v)
def rMax (C:Ctx) (ats:Array TypeId) (t:TypeId) (xs:List V):Option V:=(scalars xs).bind fun ys=>(pure? C.P (Builtin.max_ ats t ys.toArray)).bind fun v=>some (.s v)
def zr (C:Ctx) (t:TypeId):Rope V:=
 match ty C t with
 | some i=>match i.zero with
  | some z=>match z.cells with
   | some zs=>zs
   | none=>.nil
  | none=>.nil
 | none=>.nil
def subC:List Nat→Code→Code
 | [],c=>c
 | i::l,c=>match c with
  | .seq a b=>subC l (match i with | 0=>a | _=>b)
  | .cond _ a b=>subC l (match i with | 0=>a | _=>b)
  | .rangeFunc _ _ a b=>subC l (match i with | 0=>a | _=>b)
  | .block _ a=>subC l a
  | .loop a=>subC l a
  | .scope a=>subC l a
  | c=>c
def bodyOf (f:Func):Code:=f.body.getD .skip
end Go.Ev
end
section
namespace Go.Ev
variable {C:Ctx}
end Go.Ev
end
