import Derived.Test.YtaigdhieijndgaaGreatEQ4
import Derived.KernelRfl
section
namespace Go.Ev
variable {C:Ctx}
theorem growBy_le (newLen:Nat):∀ (k c:Nat),c≤newLen→Builtin.growBy newLen k c≤newLen+(newLen+768) / 4
 | 0,c,h=>by simp [Builtin.growBy]; omega
 | k+1,c,h=>by
  simp only [Builtin.growBy]
  split
  ·omega
  ·by_cases h2:c+(c+768) / 4≤newLen
   ·exact growBy_le newLen k _ h2
   ·cases k with
    | zero=>simp [Builtin.growBy]; omega
    | succ k=>simp only [Builtin.growBy]; rw [if_pos (by omega)]; omega
theorem nextslicecap_le {newLen oldCap:Nat} (h:oldCap<newLen):Builtin.nextslicecap newLen oldCap≤2*newLen+192:=by
 unfold Builtin.nextslicecap
 split
 ·omega
 ·split
  ·omega
  ·have:=growBy_le newLen 4 oldCap (by omega); omega
theorem Evo.rename {ρ:Ren} {h:Heap} {w:World} (H:HRel ρ h w) {b n:Nat} {o o':O} {x':Obj} {c sh ex sh' ex':Nat} (hb:h.get b=some o) (hr:ρ b=some (c,sh,ex)) (hn:ρ n=none) (ho:o.own=true) (ho':o'.own=true)
  (hx:∀ ρ':Ren,ρ.le ρ'→ORel ρ' sh' ex' o' x') :
  ∃ ρ':Ren,ρ' n=some (c,sh',ex')∧Evo ρ h n w ρ' ((h.del b).set n o') (n+1) { w with heap:=w.heap.setIfInBounds c x' }:=by
 have hlt:c<w.heap.size:=H.lt hb hr
 have hbn:b≠n:=by rintro rfl; rw [hr] at hn; cases hn
 let ρ':Ren:=fun k=>if k=n then some (c,sh',ex') else ρ k
 have hle:ρ.le ρ':=by
  intro k y hk
  show (if k=n then _ else ρ k)=_
  rw [if_neg (by rintro rfl; rw [hn] at hk; cases hk)]; exact hk
 have hn':ρ' n=some (c,sh',ex'):=by show (if n=n then _ else _)=_; rw [if_pos rfl]
 have hne:∀ k,k≠n→ρ' k=ρ k:=fun k hk=>by show (if k=n then _ else ρ k)=_; rw [if_neg hk]
 have look:∀ {k:Nat} {ok:O},((h.del b).set n o').get k=some ok→(k=n∧ok=o')∨(k≠n∧k≠b∧h.get k=some ok):=by
  intro k ok hk
  rw [Tree.get_set] at hk
  by_cases e:k=n
  ·rw [if_pos e] at hk; cases hk; exact .inl ⟨e,rfl⟩
  ·rw [if_neg e,Tree.get_del] at hk
   by_cases e':k=b
   ·rw [if_pos e'] at hk; cases hk
   ·rw [if_neg e'] at hk; exact .inr ⟨e,e',hk⟩
 refine ⟨ρ',hn',hle,?_,by omega,⟨?_,?_⟩,by simp,?_,?_,?_,⟨rfl,rfl,rfl⟩⟩
 ·intro k y h1 h2
  by_cases e:k=n
  ·omega
  ·rw [hne k e,h2] at h1; cases h1
 ·intro k ok hk
  rcases look hk with ⟨rfl,rfl⟩ | ⟨e1,e2,hk⟩
  ·exact ⟨_,_,_,x',hn',by simp [hlt],hx _ hle⟩
  ·obtain ⟨c1,sh1,ex1,y,g1,g2,g3⟩:=H.obj k ok hk
   refine ⟨c1,sh1,ex1,y,by rw [hne k e1]; exact g1,?_,g3.mono hle⟩
   have:c≠c1:=fun e=>e2 (H.inj b k o ok _ _ hb hk ho hr g1 e).symm
   simp [Array.getElem?_setIfInBounds_ne this,g2]
 ·intro k k' ok ok' y y' h1 h2 hk0 h3 h4 h5
  rcases look h1 with ⟨rfl,rfl⟩ | ⟨e1,e2,g1⟩ <;> rcases look h2 with ⟨rfl,rfl⟩ | ⟨e1',e2',g2⟩
  ·rfl
  ·rw [hn'] at h3; cases h3
   rw [hne k' e1'] at h4
   exact (e2' (H.inj b k' o ok' _ _ hb g2 ho hr h4 h5).symm).elim
  ·rw [hn'] at h4; cases h4
   rw [hne k e1] at h3
   exact (e2 (H.inj b k o ok _ _ hb g1 ho hr h3 h5.symm).symm).elim
  ·rw [hne k e1] at h3; rw [hne k' e1'] at h4
   exact H.inj k k' ok ok' y y' g1 g2 hk0 h3 h4 h5
 ·intro c1 hc1 hno
  have:c≠c1:=hno b o _ hb ho hr
  simp [Array.getElem?_setIfInBounds_ne this]
 ·intro k ok y hk hk0 hr'
  rcases look hk with ⟨rfl,rfl⟩ | ⟨e1,e2,hk⟩
  ·rw [hn'] at hr'; cases hr'
   exact .inl ⟨b,o,_,hb,ho,hr,rfl⟩
  ·rw [hne k e1] at hr'
   exact .inl ⟨k,ok,y,hk,hk0,hr',rfl⟩
 ·intro k ok hk hk0
  rcases look hk with ⟨rfl,rfl⟩ | ⟨e1,e2,hk⟩
  ·rw [ho'] at hk0; cases hk0
  ·exact hk
section
variable {ats:Array TypeId} {t0 t1 e rt:TypeId} {i0 i1 j:Ty} {x0 x1 xj:TypeInfo}
theorem append_grows {P:Program} {w:World} (h0:ats[0]? = some t0) (h1:ats[1]? = some t1) (u0:P.underlying t0=some (.slice e)) {d1:TypeDesc} (u1:P.underlying t1=some d1)
  (hd1:∀ k,d1≠.int k) {sz:Nat} (hs:∀ w,(Go.sizeOf e).run P w=.ok sz w) (hi:∀ w,(Go.typeInfo e).run P w=.ok xj w) (hbytes:xj.bytes≠0)
  {base:Option Addr} {len cap m:Nat} {xx:Value} (hl:(Builtin.lenOf xx).run P w=.ok m w) (hno:¬ (len+m≤cap)) (hroom:Builtin.nextslicecap (len+m) cap*xj.bytes≤281474976710656)
  {old new:List Value} (ho:∀ w',w'.heap=w.heap→(Builtin.firstCells sz len (.slice base len cap)).run P w'=.ok old.toArray w')
  (hn:∀ w',w'.heap=w.heap→(Builtin.firstCells sz m xx).run P w'=.ok new.toArray w') {z:Value} (hz:∀ w,(Go.zeroValue e).run P w=.ok z w) (hzs:z.cells.size≠0) :
  ∃ r:Nat,(Builtin.append_ ats rt #[.slice base len cap,xx]).run P w=.ok (.slice (some ⟨w.heap.size,0,none⟩) (len+m) (len+m+r))
   (w.drew.alloc (.cells (old++new++(List.replicate r z.cells.toList).flatten).toArray e)):=by
 let r:=w.tape w.drawn (.appendCap (len+m) cap e) % (2 ^ 63-(len+m))
 refine ⟨r,?_⟩
 have hc:(choose (.appendCap (len+m) cap e)).run P w=.ok (len+m+r) w.drew:=by
  rw [run_choose]; simp [Question.forced,Question.cut,r]
 have hm:(match d1 with | .int _=>true | _=>false)=false:=by
  cases d1 <;> first | rfl | exact (hd1 _ rfl).elim
 have hcond:¬ (((len+m:Nat):Int) > IntKind.i64.max∧(False∨xj.bytes=0)):=by rintro ⟨_,h | h⟩; exact h; exact hbytes h
 have hroom2:¬ (Builtin.nextslicecap (len+m) cap*xj.bytes > 2 ^ 48):=by omega
 have hzero:Builtin.zeroCells z.cells r=((List.replicate r z.cells.toList).flatten).toArray:=zero_cells z.cells r hzs
 have e1:len+m+r-(len+m)=r:=by omega
 simp only [Builtin.append_,h0,h1,List.getElem?_toArray,List.getElem?_cons_zero,List.getElem?_cons_succ,Sem.run_bind,run_underlying u0,run_underlying u1,Result.andThen_ok,hs,Sem.run_pure,
  Bool.false_eq_true,if_false,hl,Sem.run_ite,if_neg hno,hi,hcond,hroom2,hc,run_askRoom,ho w.drew rfl,hn w.drew rfl,Bool.not_false,if_true,hz,e1,hzero,Go.newRow,run_newObj]
 simp only [List.append_toArray]
 rfl
theorem append_fits {P:Program} {w w':World} (h0:ats[0]? = some t0) (h1:ats[1]? = some t1) (u0:P.underlying t0=some (.slice e)) {d1:TypeDesc} (u1:P.underlying t1=some d1)
  (hd1:∀ k,d1≠.int k) {sz:Nat} (hs:∀ w,(Go.sizeOf e).run P w=.ok sz w)
  {base:Option Addr} {len cap m:Nat} {xx:Value} (hl:(Builtin.lenOf xx).run P w=.ok m w) (hno:len+m≤cap)
  {new:List Value} (hn:(Builtin.firstCells sz m xx).run P w=.ok new.toArray w)
  (hst:(match base with | some a=>Go.storeCells (a.add (len*sz)) new | none=>pure ()).run P w=.ok () w') :
  (Builtin.append_ ats rt #[.slice base len cap,xx]).run P w=.ok (.slice base (len+m) cap) w':=by
 have hm:(match d1 with | .int _=>true | _=>false)=false:=by
  cases d1 <;> first | rfl | exact (hd1 _ rfl).elim
 cases base with
 | none=>
  simp only [Sem.run_pure,Result.ok.injEq,true_and] at hst
  subst hst
  simp only [Builtin.append_,h0,h1,List.getElem?_toArray,List.getElem?_cons_zero,List.getElem?_cons_succ,Sem.run_bind,run_underlying u0,run_underlying u1,Result.andThen_ok,hs,Sem.run_pure,
   Bool.false_eq_true,if_false,hl,Sem.run_ite,if_pos hno,Bool.not_false,if_true,hn]
 | some a=>
  simp only at hst
  simp only [Builtin.append_,h0,h1,List.getElem?_toArray,List.getElem?_cons_zero,List.getElem?_cons_succ,Sem.run_bind,run_underlying u0,run_underlying u1,Result.andThen_ok,hs,Sem.run_pure,
   Bool.false_eq_true,if_false,hl,Sem.run_ite,if_pos hno,Bool.not_false,if_true,hn,hst]
end
theorem grown_spec {h:Heap} {n need:Nat} {j:Ty} {row:Rope V} {r:V×Heap×Nat} (hg:grown h n need j row=some r) :
  ∃ z zs,j.zero=some z∧z.cells=some zs∧zs.size=j.size∧(2*need+192)*j.bytes≤281474976710656∧r=(.slice n 0 need need true,h.set n (.cells row j.size),n+1):=by
 unfold grown at hg
 replace hg:=of_bind hg
 obtain ⟨z,hz,hg⟩:=hg
 replace hg:=of_bind hg
 obtain ⟨zs,hzs,hg⟩:=hg
 obtain ⟨g,hg⟩:=of_cond_some hg
 cases hg
 simp only [Bool.and_eq_true,beq_true_iff,ble_true_iff] at g
 exact ⟨z,zs,hz,hzs,g.1,g.2,rfl⟩
theorem grown_evo {ρ:Ren} {h:Heap} {w d:World} (H:HRel ρ h w) (hd:d=w.drew) {n:Nat} (hn:ρ n=none) {row:Rope V} {es:Nat} {xs:List Value} (ho:row.Ok) (hr:VRels ρ row.toList xs) (hc:∀ x∈xs,x.oneCell'=true)
  {rest:List Value} {ex:Nat} (hx:ex*es≤rest.length) (e:TypeId) (need:Nat) :
  ∃ ρ',Evo ρ h n w ρ' (h.set n (.cells row es)) (n+1) (d.alloc (.cells (xs++rest).toArray e))∧VRel ρ' (.slice n 0 need need true) (.slice (some ⟨w.heap.size,0,none⟩) need (need+ex)):=by
 subst hd
 obtain ⟨ρ',h1,h2⟩:=Evo.alloc (b:=n) (n:=n) (o:=.cells row es) (ex:=ex) (x:=.cells (xs++rest).toArray e) H.drew hn (Nat.le_refl _) (n+1) (by omega) rfl (fun ρ' hle=>
  .cells ho [] xs rest (by simp) rfl (hr.mono hle) hc hx (fun i _ h=>by simp at h))
 refine ⟨ρ',(Evo.drew H n).trans h2,?_⟩
 have:=VRel.slice (ρ:=ρ') (off:=0) (len:=need) (cap:=need) (op:=true) (o:=0) h1 (Nat.le_refl _) (fun _=>rfl)
 simpa [xcap] using this
theorem append_run (hC:C.Ok) {ρ:Ren} {h:Heap} {w:World} (H:HRel ρ h w) {n:Nat} {ats:Array TypeId} {t0 t1 rt:TypeId} {s x:V} {r:V×Heap×Nat} (ha:append C h n t0 t1 s x=some r)
  (h0:ats[0]? = some t0) (h1:ats[1]? = some t1) {sx xx:Value} (hs:VRel ρ s sx) (hx:VRel ρ x xx) (hf:Fresh ρ n r.2.2) :
  ∃ y w' ρ',(Builtin.append_ ats rt #[sx,xx]).run C.P w=.ok y w'∧Evo ρ h n w ρ' r.2.1 r.2.2 w'∧VRel ρ' r.1 y:=by
 unfold append at ha
 replace ha:=of_bind ha
 obtain ⟨i0,hi0,ha⟩:=ha
 replace ha:=of_bind ha
 obtain ⟨i1,hi1,ha⟩:=ha
 obtain ⟨_,s0⟩:=hC.spec hi0
 obtain ⟨_,s1⟩:=hC.spec hi1
 have u0:=s0.und
 have u1:=s1.und
 split at ha
 ·cases ha
 ·rename_i e hd0 hno
  have hd1:∀ k,i1.desc≠.int k:=fun k hk=>hno k hk
  rw [hd0] at u0
  replace ha:=of_bind ha
  obtain ⟨j,hj,ha⟩:=ha
  obtain ⟨xj,sj⟩:=hC.spec hj
  replace ha:=of_cond_none ha
  obtain ⟨g,ha⟩:=ha
  simp only [Bool.or_eq_false_iff,beq_false_iff] at g
  obtain ⟨g1,g2⟩:=g
  replace ha:=of_bind ha
  obtain ⟨m,hm,ha⟩:=ha
  replace ha:=of_bind ha
  obtain ⟨new,hnew,ha⟩:=ha
  replace ha:=of_cond_none ha
  obtain ⟨gsz,ha⟩:=ha
  simp only [Bool.not_eq_false',beq_true_iff] at gsz
  have l1:=lenOf_run (C:=C) hm hx w
  obtain ⟨ys,f2,f3,f4,f1⟩:=firstCells_runs (C:=C) H hnew hx
  have f1':∀ w',w'.heap=w.heap→(Builtin.firstCells j.size m xx).run C.P w'=.ok ys.toArray w':=fun w' hw=>(f1 w' hw).1
  have hbytes:xj.bytes≠0:=by rw [← sj.bytes]; exact g2
  have grows:∀ {base:Option Addr} {len cap need:Nat} {row:Rope V} {h2:Heap} {olds:List Value},HRel ρ h2 w→¬ (len+m≤cap)→need=len+m→grown h2 n need j row=some r →
    sx=.slice base len cap→row.Ok→VRels ρ row.toList (olds++ys)→(∀ x∈olds,x.oneCell'=true)→(∀ w',w'.heap=w.heap→(Builtin.firstCells j.size len sx).run C.P w'=.ok olds.toArray w') →
    ∃ y w' ρ',(Builtin.append_ ats rt #[sx,xx]).run C.P w=.ok y w'∧Evo ρ h2 n w ρ' r.2.1 r.2.2 w'∧VRel ρ' r.1 y:=by
   rintro base len cap need row h2 olds H2 hfit rfl hg rfl o1 o2 o3 o4
   obtain ⟨z,zs,hz,hzs,hz2,hroom,rfl⟩:=grown_spec hg
   obtain ⟨zy,z1,z2⟩:=sj.run_zeros hz ρ
   obtain ⟨c1,c2,c3⟩:=z2.cells hzs
   have hzy:zy.cells.size=j.size:=by
    have:=c2.length
    rw [← hz2,Rope.size_eq c1,this]; simp
   have hle:Builtin.nextslicecap (len+m) cap*xj.bytes≤281474976710656:=by
    have:=nextslicecap_le (newLen:=len+m) (oldCap:=cap) (by omega)
    rw [← sj.bytes]
    exact Nat.le_trans (Nat.mul_le_mul_right _ this) hroom
   obtain ⟨q,hq⟩:=append_grows (rt:=rt) (P:=C.P) (w:=w) h0 h1 u0 u1 hd1 (sj.run_size) (sj.run_info) hbytes l1 hfit hle o4 f1' z1 (by omega)
   obtain ⟨ρ',e1,e2⟩:=grown_evo (d:=w.drew) (es:=j.size) (xs:=olds++ys) (ex:=q) (rest:=(List.replicate q zy.cells.toList).flatten) H2 rfl (hf n (Nat.le_refl _) (by simp)) o1 o2
    (by intro x hx; rcases List.mem_append.1 hx with hx | hx; exact o3 x hx; exact f4 x hx) (by simp [hzy]) e (len+m)
   exact ⟨_,_,ρ',hq,e1,e2⟩
  have n0:=Rope.size_eq f2
  have n1:=f3.length
  split at ha
  ·cases hs
   by_cases hm0:m=0
   ·rw [show Nat.beq m 0=true from by simpa using hm0] at ha
    simp only [cond_true] at ha
    cases ha
    refine ⟨.slice none 0 0,w,ρ,?_,.refl n H,.s _⟩
    have:=append_fits (rt:=rt) (P:=C.P) (w:=w) (w':=w) (base:=none) (len:=0) (cap:=0) h0 h1 u0 u1 hd1 sj.run_size l1 (by omega) (f1' w rfl) rfl
    rw [this,hm0]
   ·rw [show Nat.beq m 0=false from by simpa using hm0] at ha
    simp only [cond_false] at ha
    exact grows (olds:=[]) H (by omega) (by omega) ha rfl f2 (by simpa using f3) (by simp) (fun w' _=>rfl)
  ·rename_i b off len cap op
   cases hs with | @slice _ _ _ _ c sh ex o _ hr hl ho=>
   by_cases hfit:len+m≤cap
   ·rw [show Nat.ble (len+m) cap=true from by simpa using hfit] at ha
    simp only [cond_true] at ha
    replace ha:=of_bind ha
    obtain ⟨h',hh,ha⟩:=ha
    cases ha
    by_cases hz:new.size=0
    ·rw [show Nat.beq new.size 0=true from by simpa using hz] at hh
     simp only [cond_true] at hh
     cases hh
     have:ys=[]:=List.eq_nil_of_length_eq_zero (by omega)
     subst this
     refine ⟨_,w,ρ,append_fits (rt:=rt) (P:=C.P) (w:=w) (w':=w) (base:=some ⟨c,o,none⟩) (len:=len) (cap:=cap+xcap op ex) h0 h1 u0 u1 hd1 sj.run_size l1 (by omega) (f1' w rfl) rfl,.refl n H,.slice hr hfit ho⟩
    ·rw [show Nat.beq new.size 0=false from by simpa using hz] at hh
     simp only [cond_false] at hh
     obtain ⟨g,hh⟩:=of_cond_none hh
     simp only [beq_false_iff] at g
     have ho':=ho (by omega)
     subst ho'
     obtain ⟨w',s1,s2⟩:=storeCells_run (C:=C) H hh hr f2 f3 f4 n
     refine ⟨_,w',ρ,append_fits (rt:=rt) (P:=C.P) (w:=w) (w':=w') (base:=some ⟨c,off+sh,none⟩) (len:=len) (cap:=cap+xcap op ex) h0 h1 u0 u1 hd1 sj.run_size l1 (by omega) (f1' w rfl) ?_,s2,.slice hr hfit ho⟩
     simp only [addr_add]
     rw [show off+sh+len*j.size=off+len*j.size+sh from by omega]
     exact s1
   ·rw [show Nat.ble (len+m) cap=false from by simpa using hfit] at ha
    simp only [cond_false] at ha
    replace ha:=of_bind ha
    obtain ⟨old,hold,ha⟩:=ha
    have hsv:VRel ρ (.slice b off len cap op) (.slice (some ⟨c,o,none⟩) len (cap+xcap op ex)):=.slice hr hl ho
    obtain ⟨os,p2,p3,p4,p1⟩:=firstCells_runs (C:=C) H hold hsv
    have p1':∀ w',w'.heap=w.heap→(Builtin.firstCells j.size len (.slice (some ⟨c,o,none⟩) len (cap+xcap op ex))).run C.P w'=.ok os.toArray w':=fun w' hw=>(p1 w' hw).1
    obtain ⟨a1,a2,a3⟩:=Rope.app_ok p2 f2
    have arow:VRels ρ (old.app new).toList (os++ys):=by rw [a2]; exact p3.append f3
    cases op with
    | false=>
     simp only [cond_false] at ha
     exact grows H (by simpa [xcap] using hfit) rfl ha rfl a1 arow p4 p1'
    | true=>
     simp only [cond_true] at ha
     replace ha:=of_bind ha
     obtain ⟨q,hq,ha⟩:=ha
     obtain ⟨gg,ha⟩:=of_cond_some ha
     simp only [Bool.and_eq_true,beq_true_iff] at gg
     obtain ⟨gg1,gg2⟩:=gg
     by_cases hfit2:len+m≤cap+ex
     ·obtain ⟨hg,arr,t',fz,pre,mid,post,k1,k2,k3,k4,k5,k6,k7,k8⟩:=H.cells hq hr
      have ho':=ho (by simp [xcap]; omega)
      subst ho'
      have z1:=Rope.size_eq k2
      have z2:=k5.length
      have z3:arr.size=pre.length+mid.length+post.length:=by rw [← Array.length_toList,k3]; simp; omega
      obtain ⟨_,_,_,_,_,_,hrr⟩:=grown_spec ha
      have hmul:len*j.size≤cap*j.size:=Nat.mul_le_mul_right _ hl
      have hos:os=(mid.drop off).take (len*j.size):=by
       have e1:=(p1 w rfl).2 _ _ _ rfl
       have e:((mid.drop off).take (len*j.size)).length=len*j.size:=by simp; omega
       have e2:=run_loadCells_list (P:=C.P) (w:=w) ⟨c,off+sh,none⟩ ((mid.drop off).take (len*j.size)) (by
        intro i y hj
        rw [List.getElem?_take] at hj
        split at hj
        ·rw [List.getElem?_drop] at hj
         have:=cell_of_row (w:=w) k1 k3 hj
         rw [addr_add,← k4,← this]
         congr 2; omega
        ·cases hj)
       rw [e,e1] at e2
       injection e2 with e2
       exact List.toArray_inj e2
      have hys:ys.length=m*j.size:=by omega
      have hmul2:(len+m)*j.size≤(cap+ex)*j.size:=Nat.mul_le_mul_right _ hfit2
      have hex:ex*j.size≤post.length:=by rw [← gg1]; exact k7
      rw [Nat.add_mul,Nat.add_mul] at hmul2
      have hst:=run_storeCells_gen (P:=C.P) c (off+sh+len*j.size) t' fz ys 0 arr w k1 (by omega) f4 k8
      subst hrr
      obtain ⟨ρ',r1,r2⟩:=Evo.rename H hg hr (hf n (Nat.le_refl _) (by simp)) rfl (sh':=sh+off) (ex':=cap+ex-(len+m))
       (o':=.cells (old.app new) j.size) (x':=.cells (arr.toList.take (off+sh+len*j.size+0)++ys++arr.toList.drop (off+sh+len*j.size+0+ys.length)).toArray t' fz) rfl (fun ρ' hle=>by
        refine .cells a1 (pre++mid.take off) (os++ys) (arr.toList.drop (off+sh+len*j.size+ys.length)) ?_ ?_ (arow.mono hle) ?_ ?_ ?_
        ·simp only [Nat.add_zero]
         congr 1
         rw [← List.append_assoc]
         congr 1
         rw [k3,hos,List.append_assoc pre,List.take_append,List.take_of_length_le (show pre.length≤off+sh+len*j.size by omega)]
         rw [show off+sh+len*j.size-pre.length=off+len*j.size from by omega,List.take_append_of_le_length (by omega),List.take_add,List.append_assoc]
        ·simp; omega
        ·intro x hx; rcases List.mem_append.1 hx with hx | hx; exact p4 x hx; exact f4 x hx
        ·simp only [List.length_drop,Array.length_toList]
         rw [Nat.sub_mul,Nat.add_mul,Nat.add_mul]
         omega
        ·intro i hi
         apply k8
         simp at hi
         omega)
      refine ⟨_,_,ρ',append_fits (rt:=rt) (P:=C.P) (w:=w) (base:=some ⟨c,off+sh,none⟩) (len:=len) (cap:=cap+xcap true ex) h0 h1 u0 u1 hd1 sj.run_size l1 (by simpa [xcap] using hfit2) (f1' w rfl) (by simp only [addr_add]; exact hst),r2,?_⟩
      have:=VRel.slice (ρ:=ρ') (off:=0) (len:=len+m) (cap:=len+m) (op:=true) (o:=off+sh) r1 (Nat.le_refl _) (fun _=>by omega)
      have e9:len+m+xcap true (cap+ex-(len+m))=cap+xcap true ex:=by simp [xcap]; omega
      rw [e9] at this
      exact this
     ·obtain ⟨y,w',ρ',v1,v2,v3⟩:=grows (H.weaken (h':=h.del b) (fun k ok hk=>by
       rw [Tree.get_del] at hk
       split at hk
       ·cases hk
       ·exact hk)) (by simpa [xcap] using hfit2) rfl ha rfl a1 arow p4 p1'
      exact ⟨y,w',ρ',v1,(Evo.drop H n b).trans v2,v3⟩
  ·cases ha
 ·cases ha
end Go.Ev
end
section
namespace Go.Ev
variable {C:Ctx}
theorem run_getIter {P:Program} {w:World} {c:Nat} {x:Obj} (h:w.heap[c]? = some x) (hx:∀ a b d,x≠.cells a b d):(Go.getObj c).run P w=.ok x w:=by
 simp only [Go.getObj,Sem.run,h]
theorem range_run (hC:C.Ok) {ρ:Ren} {h:Heap} {w:World} (H:HRel ρ h w) {t:TypeId} {x:Value} {v:V} {i:Ty} (hi:ty C t=some i) {n:Nat} {r:Out}
  (hr:(match i.desc,v with
  | .string,.s (.string s)=>some (.val (.ptr n 0) (h.set n (.strIter s 0)) (n+1))
  | .map _ _,.s (.map none)=>some (.val (.ptr n 0) (h.set n (.mapIter none 0 [] 0)) (n+1))
  | .map _ _,.map b=>(mapAt h (.map b)).bind fun c=>some (.val (.ptr n 0) (h.set n (.mapIter (some b) c.2 [] c.2)) (n+1))
  | _,_=>none)=some r) (hv:VRel ρ v x) (hn:ρ n=none) :
  ∃ u h' n' y w' ρ',r=.val u h' n'∧(Instr.range t x).run C.P w=.ok y w'∧Evo ρ h n w ρ' h' n' w'∧VRel ρ' u y:=by
 obtain ⟨_,sp⟩:=hC.spec hi
 have hU:=sp.und
 have fin:∀ (o:O) (it:Obj),o.own=true→(∀ ρ':Ren,ρ.le ρ'→ORel ρ' 0 0 o it)→r=.val (.ptr n 0) (h.set n o) (n+1)→(Instr.range t x).run C.P w=.ok (.pointer (some ⟨w.heap.size,0,none⟩)) (w.alloc it) →
   ∃ u h' n' y w' ρ',r=.val u h' n'∧(Instr.range t x).run C.P w=.ok y w'∧Evo ρ h n w ρ' h' n' w'∧VRel ρ' u y:=by
  intro o it hown ho hr hrun
  obtain ⟨ρ',h1,h2⟩:=Evo.alloc (n:=n) H hn (Nat.le_refl _) (n+1) (by omega) hown ho
  exact ⟨_,_,_,_,_,ρ',hr,hrun,h2,.ptr (off:=0) h1⟩
 split at hr
 ·rename_i s hd
  cases hr
  cases hv
  rw [hd] at hU
  refine fin _ (.stringIter s 0) rfl (fun _ _=>.strIter rfl) rfl ?_
  simp [Instr.range,run_underlying hU]
 ·rename_i k e hd
  cases hr
  cases hv
  rw [hd] at hU
  refine fin _ (.mapIter none 0 #[] 0) rfl (fun _ _=>.mapIterNil rfl) rfl ?_
  simp [Instr.range,run_underlying hU]
 ·rename_i k e b hd
  replace hr:=of_bind hr
  obtain ⟨c,hc,hr⟩:=hr
  cases hr
  cases hv with | map hρ=>
  rw [hd] at hU
  obtain ⟨_,ms,g1,g2⟩:=H.map hc hρ
  refine fin _ (.mapIter (some _) c.2 #[] c.2) rfl (fun ρ' hle=>.mapIter rfl (hle _ _ hρ)) rfl ?_
  simp [Instr.range,run_underlying hU,run_getMap g1]
 ·cases hr
theorem ERels.filter {ρ:Ren} {es:List Ent} {ms:List MapEntry} (h:ERels ρ es ms) (p:Nat→Bool):ERels ρ (es.filter fun e=>p e.born) (ms.filter fun m=>p m.born):=by
 induction h with
 | nil=>exact .nil
 | cons he hs ih=>
  cases he with | @mk k v n x y h1 h2=>
  by_cases hp:p n=true
  ·simp only [List.filter_cons,hp,if_true]; exact .cons (.mk h1 h2) ih
  ·simp only [List.filter_cons,hp]; exact ih
theorem ERels.all {ρ:Ren} {es:List Ent} {ms:List MapEntry} (h:ERels ρ es ms) (p:Nat→Bool):(es.all fun e=>p e.born)=ms.all fun m=>p m.born:=by
 induction h with
 | nil=>rfl
 | cons he hs ih=>cases he with | mk h1 h2=>simp [ih]
theorem next_run (hC:C.Ok) {ρ:Ren} {h:Heap} {w:World} (H:HRel ρ h w) {p:Nat×Nat} {c sh ex:Nat} (hρ:ρ p.1=some (c,sh,ex)) (hp:p.2=0) {isString:Bool} {t:TypeId} {n:Nat} {r:Out}
  (hr:(match h.get p.1,isString with
   | some (.strIter s pos),true=>
    bif Nat.blt pos s.size then
     let d:=Utf8.decode s pos
     some (.val (.tup [.s (.bool true),.s (goInt pos),.s (.int .i32 d.1)]) (h.set p.1 (.strIter s (pos+d.2))) n)
    else some (.val (.tup [.s (.bool false)]) h n)
   | some (.mapIter none _ _ _),false=>some (.val (.tup [.s (.bool false)]) h n)
   | some (.mapIter (some m) since seen last),false=>
    (mapAt h (.map m)).bind fun c=>
    bif !seen.isEmpty && (!c.1.isEmpty && c.1.all fun e=>Nat.ble last e.born) then none else
    match c.1.filter fun e=>!seen.contains e.born with
    | []=>some (.val (.tup [.s (.bool false)]) h n)
    | [e]=>bif Nat.blt e.born since then
      some (.val (.tup [.s (.bool true),e.k,e.v]) (h.set p.1 (.mapIter (some m) since (seen++[e.born]) c.2)) n) else none
    | _=>none
   | _,_=>none)=some r) :
  ∃ u h' y w',r=.val u h' n∧(Instr.next (.pointer (some ⟨c,p.2+sh,none⟩)) isString t).run C.P w=.ok y w'∧Evo ρ h n w ρ h' n w'∧VRel ρ u y:=by
 have hover:VRel ρ (.tup [.s (.bool false)]) (.tuple #[.bool false]):=by simpa using VRel.tup (ρ:=ρ) (.cons (.s (.bool false)) .nil)
 rw [hp]
 split at hr
 ·rename_i s pos hg
  obtain ⟨x,h1,h2⟩:=H.at hg hρ
  cases h2 with | strIter hs=>
  subst hs
  by_cases hlt:pos<s.size
  ·rw [show Nat.blt pos s.size=true from by simpa using hlt] at hr
   simp only [cond_true] at hr
   cases hr
   refine ⟨_,_,.tuple #[.bool true,goInt pos,.int .i32 (Utf8.decode s pos).1],_,rfl,?_,Evo.turn H n hg hρ rfl rfl (.strIter (pos:=pos+(Utf8.decode s pos).2) rfl),?_⟩
   ·simp only [Instr.next,Nat.add_zero,Sem.run_bind,run_getIter h1 (by simp),Result.andThen_ok,if_pos hlt]
    rw [run_setMap _ h1 (by simp)]
    rfl
   ·simpa using VRel.tup (ρ:=ρ) (.cons (.s (.bool true)) (.cons (.s (goInt pos)) (.cons (.s (.int .i32 (Utf8.decode s pos).1)) .nil)))
  ·rw [show Nat.blt pos s.size=false from by simpa using hlt] at hr
   simp only [cond_false] at hr
   cases hr
   refine ⟨_,_,.tuple #[.bool false],w,rfl,?_,.refl n H,hover⟩
   simp only [Instr.next,Nat.add_zero,Sem.run_bind,run_getIter h1 (by simp),Result.andThen_ok,if_neg hlt,Sem.run_pure]
 ·rename_i since seen last hg
  obtain ⟨x,h1,h2⟩:=H.at hg hρ
  cases hr
  cases h2 with | mapIterNil hs=>
  subst hs
  refine ⟨_,_,.tuple #[.bool false],w,rfl,?_,.refl n H,hover⟩
  simp only [Instr.next,Nat.add_zero,Sem.run_bind,run_getIter h1 (by simp),Result.andThen_ok,Sem.run_pure]
 ·rename_i m since seen last hg
  obtain ⟨x,h1,h2⟩:=H.at hg hρ
  replace hr:=of_bind hr
  obtain ⟨q,hq,hr⟩:=hr
  replace hr:=of_cond_none hr
  obtain ⟨gq,hr⟩:=hr
  cases h2 with | @mapIter _ mc s0 x0 _ _ _ hs hm=>
  subst hs
  obtain ⟨_,ms,g1,g2⟩:=H.map hq hm
  have hfil:=g2.filter (fun b=>!seen.contains b)
  have hall:=g2.all (fun b=>Nat.ble last b)
  have hlen:=g2.length
  have hcond:(!seen.toArray.isEmpty && !ms.isEmpty && ms.all (fun e=>decide (e.born ≥ last)))=false:=by
   rw [← gq]
   have e1:seen.toArray.isEmpty=seen.isEmpty:=by cases seen <;> rfl
   have e2:ms.isEmpty=q.1.isEmpty:=by
    rw [Bool.eq_iff_iff,Array.isEmpty_iff_size_eq_zero,List.isEmpty_iff_length_eq_zero,hlen]; simp
   have e3:(ms.all fun e=>decide (e.born ≥ last))=q.1.all fun e=>Nat.ble last e.born:=by
    rw [hall,← Array.all_toList]
    congr 1
    funext m
    rw [Bool.eq_iff_iff]; simp
   rw [e1,e2,e3]
   cases seen.isEmpty <;> cases q.1.isEmpty <;> simp
  have hleft:(ms.filter fun e=>!seen.toArray.contains e.born).toList=ms.toList.filter fun m=>!seen.contains m.born:=by simp
  have hL:∀ L:List MapEntry,(ms.filter fun e=>!seen.toArray.contains e.born).toList=L→(ms.filter fun e=>!seen.toArray.contains e.born)=L.toArray:=by
   intro L h; rw [← h]
  have hrun:∀ L:List MapEntry,(ms.toList.filter fun m=>!seen.contains m.born)=L →
    (Instr.next (.pointer (some ⟨c,0+0,none⟩)) false t).run C.P w =
     (do
      let left:Array MapEntry:=L.toArray
      let old:=left.filter (·.born<since)
      let new:=left.filter (·.born ≥ since)
      let candidates:=(if old.isEmpty then #[none] else #[])++(old++new).map some
      match candidates[← choose (.mapNext candidates.size)]? with
      | some (some e)=>
       setObj c (.mapIter (some mc) since (seen.toArray.push e.born) q.2)
       pure (.tuple #[.bool true,e.key,e.val])
      | some none=>pure (.tuple #[.bool false])
      | none=>stuck "Next: no such candidate" : Sem Value).run C.P w:=by
   intro L h
   rw [← hL L (by rw [hleft,h])]
   simp only [Instr.next,Nat.zero_add,Sem.run_bind,run_getIter h1 (by simp),Result.andThen_ok,run_getMap g1,hcond]
   simp only [Bool.false_eq_true,if_false,Sem.run_bind]
   rfl
  generalize hLL:(ms.toList.filter fun m=>!seen.contains m.born)=L at hfil
  have hrun:=hrun L hLL
  split at hr
  ·rename_i he
   rw [he] at hfil
   cases hfil
   cases hr
   refine ⟨_,_,.tuple #[.bool false],w,rfl,?_,.refl n H,hover⟩
   rw [hrun]
   simp [Question.forced]
  ·rename_i e he
   rw [he] at hfil
   replace hr:=of_cond_some hr
   obtain ⟨hb,hr⟩:=hr
   cases hr
   cases hfil with | cons hm' hn=>
   cases hn
   cases hm' with | @mk k v b x y hk hv=>
   have hb':b<since:=by simpa using hb
   refine ⟨_,_,.tuple #[.bool true,x,y],_,rfl,?_,Evo.turn H n hg hρ rfl rfl (.mapIter (seen:=seen++[b]) rfl hm),?_⟩
   ·rw [hrun]
    simp [Question.forced,hb',run_setMap _ h1]
   ·simpa using VRel.tup (ρ:=ρ) (.cons (.s (.bool true)) (.cons hk (.cons hv .nil)))
  ·cases hr
 ·cases hr
end Go.Ev
end
section
namespace Go.Ev
variable {C:Ctx}
def Fr (ρ:Ren) (n:Nat):Prop:=∀ b,n≤b→ρ b=none
theorem Fr.le {ρ:Ren} {n m:Nat} (h:Fr ρ n) (hm:n≤m):Fr ρ m:=fun b hb=>h b (by omega)
theorem Fr.fresh {ρ:Ren} {n m:Nat} (h:Fr ρ n):Fresh ρ n m:=fun b hb _=>h b hb
theorem Fr.evo {ρ ρ':Ren} {h h':Heap} {n n':Nat} {w w':World} (hf:Fr ρ n) (e:Evo ρ h n w ρ' h' n' w'):Fr ρ' n':=by
 intro b hb
 cases hr:ρ' b with
 | none=>rfl
 | some x=>
  have:=e.new b x hr (hf b (by have:=e.num; omega))
  omega
def ActOk (C:Ctx) (ρ:Ren) (h:Heap) (n:Nat) (w:World) (s:Sem Next):Out→Prop
 | .val v h' n'=>∃ y w' ρ',(s.run C.P w=.ok (.value y) w'∨(s.run C.P w=.ok .skip w'∧y=undef))∧Evo ρ h n w ρ' h' n' w'∧VRel ρ' v y
 | .enter f args=>∃ xs,s.run C.P w=(callFunc f xs.toArray).run C.P w∧VRels ρ args xs
 | .round l args=>∃ c sh ex xs,ρ l=some (c,sh,ex)∧s.run C.P w=(Instr.yield c xs.toArray).run C.P w∧VRels ρ args xs
theorem methodOf_run (hC:C.Ok) {ρ:Ren} {t:TypeId} {v:V} {x:Value} {name:String} {q:FuncId×V} (h:methodOf C t v name=some q) (hv:VRel ρ v x) (w:World) (k:Nat) :
  ∃ y,(Go.method (k+1) t x name).run C.P w=.ok (q.1,y) w∧VRel ρ q.2 y:=by
 unfold methodOf at h
 replace h:=of_bind h
 obtain ⟨i,hi,h⟩:=h
 replace h:=of_bind h
 obtain ⟨m,hm,h⟩:=h
 replace h:=of_cond_some h
 obtain ⟨hp,h⟩:=h
 replace h:=of_bind h
 obtain ⟨fp,hfp,h⟩:=h
 obtain ⟨ti,sp⟩:=hC.spec hi
 have hfind:ti.methods.find? (·.name == name)=some m:=by
  rw [← hm,sp.methods]; simp
 have hpath:m.path.toList=[]:=by simpa using hp
 obtain ⟨f,pr⟩:=fp
 have hrun:∀ y,(receiverAt t (.val x) pr (if m.path.isEmpty then some ((name.splitOn ".").getLastD name) else none)).run C.P w=.ok y w →
   (Go.method (k+1) t x name).run C.P w=.ok (f,y) w:=by
  intro y hy
  simp only [Go.method,Sem.run_bind,sp.run_info,Result.andThen_ok,hfind,hpath,follow,Sem.run_pure,hfp,hy]
 have hund:=sp.run_und w
 generalize i.desc=d at h hund
 cases d <;> cases pr <;> simp only [reduceCtorEq] at h <;> cases h <;> refine ⟨x,hrun x ?_,hv⟩ <;>
  simp only [receiverAt,Sem.run_bind,hund,Result.andThen_ok,Place.get,Sem.run_pure]
theorem bytesAt_run {ρ:Ren} {h:Heap} {w:World} (H:HRel ρ h w) {v:V} {s:ByteArray} (hs:bytesAt h v=some s) {x:Value} (hv:VRel ρ v x) :
  (Extern.Bytes.bytesOf x).run C.P w=.ok s w:=by
 unfold bytesAt at hs
 split at hs
 ·rename_i b off len cap op
  replace hs:=of_bind hs
  obtain ⟨cs,hcs,hs⟩:=hs
  replace hs:=of_bind hs
  obtain ⟨bs,hbs,hs⟩:=hs
  cases hs
  cases hv with | @slice _ _ _ _ c sh ex o _ hr hl ho=>
  have key:∀ (n:Nat) (acc:ByteArray) (ns:List Int) (k:Nat),(∀ j x,ns[j]? = some x→w.cell? ⟨c,o+k+j,none⟩=some (.int .u8 x))→ns.length=n →
    (Extern.Bytes.loadBytes ⟨c,o+k,none⟩ n acc).run C.P w=.ok ⟨acc.data++(ns.map fun n=>UInt8.ofNat n.toNat).toArray⟩ w:=by
   intro n
   induction n with
   | zero=>
    intro acc ns k _ hl
    have:ns=[]:=by cases ns <;> simp_all
    subst this
    simp [Extern.Bytes.loadBytes]
   | succ n ih=>
    intro acc ns k hc hl
    cases ns with
    | nil=>simp at hl
    | cons m ns=>
     have h0:=hc 0 m (by simp)
     have:=ih (acc.push m.toNat.toUInt8) ns (k+1) (fun j x hj=>by
      have:=hc (j+1) x (by simpa using hj)
      rw [← this]; congr 2; omega) (by simpa using hl)
     simp only [Extern.Bytes.loadBytes,Sem.run_bind,run_load]
     rw [Nat.add_zero] at h0
     rw [h0]
     simp only [Result.andThen_ok,addr_add]
     rw [Nat.add_assoc,this]
     congr 1
     apply ByteArray.ext
     simp [ByteArray.push,Nat.toUInt8]
  unfold firstCells at hcs
  simp only at hcs
  obtain ⟨g,hcs⟩:=of_cond_some hcs
  by_cases hz:len*1=0
  ·rw [hz] at hcs
   simp at hcs
   subst hcs
   have hb0:bs=[]:=(Option.some.inj (show some []=some bs from hbs)).symm
   subst hb0
   have hl0:len=0:=by omega
   subst hl0
   rfl
  ·rw [show Nat.beq (len*1) 0=false from by simpa using hz] at hcs
   simp only [cond_false] at hcs
   replace hcs:=of_bind hcs
   obtain ⟨q,hq,hcs⟩:=hcs
   obtain ⟨g2,hcs⟩:=of_cond_some hcs
   cases hcs
   rw [ble_true_iff] at g2
   obtain ⟨arr,t',fz,pre,mid,post,h1,h2,h3,h4,h5,h6⟩:=H.rcells hq hr
   obtain ⟨e1,e2⟩:=Rope.ext_ok off (len*1) h2 g2
   have ho:=ho (by omega)
   subst ho
   obtain ⟨ns,k1,k2⟩:=toBytes_rel (ys:=(mid.drop off).take (len*1)) hbs (by rw [e2]; exact (h5.drop off).take _)
   have hlen:ns.length=len:=by
    have:=congrArg List.length k1
    have hsz:=Rope.size_eq h2
    have:=h5.length
    simp at *; omega
   have:=key len .empty ns 0 (fun j x hj=>by
    have hj':((mid.drop off).take (len*1))[j]? = some (.int .u8 x):=by rw [k1]; simp [hj]
    rw [List.getElem?_take] at hj'
    split at hj'
    ·rw [List.getElem?_drop] at hj'
     have:=cell_of_row (w:=w) h1 h3 hj'
     rw [← this,← h4]; congr 2; omega
    ·cases hj') hlen
   simp only [Extern.Bytes.bytesOf]
   rw [Nat.add_zero] at this
   rw [this,k2]
   simp
 ·cases hs
  cases hv
  rfl
 ·cases hs
theorem compare_run {ρ:Ren} {h:Heap} {w:World} (H:HRel ρ h w) {n:Nat} {args:List V} {r:Out} (hr:compareB h n args=some r) {xs:List Value} (hx:VRels ρ args xs) {fn:Func} {f:FuncId}
  (hf:C.P.funcs[f]? = some fn) (hc:isCompare fn=true) {s:Sem Next} (hs:s.run C.P w=(callFunc f xs.toArray).run C.P w):ActOk C ρ h n w s r:=by
 unfold compareB at hr
 split at hr
 ·replace hr:=of_bind hr
  obtain ⟨x,h1,hr⟩:=hr
  replace hr:=of_bind hr
  obtain ⟨y,h2,hr⟩:=hr
  cases hr
  obtain ⟨a,l1,rfl,g1,hx⟩:=hx.cons_inv
  obtain ⟨b,l2,rfl,g2,hx⟩:=hx.cons_inv
  cases hx.nil_inv
  refine ⟨_,w,ρ,.inl ?_,.refl n H,.s _⟩
  simp only [isCompare,Bool.and_eq_true,beq_iff_eq] at hc
  obtain ⟨c1,c2,c3⟩:=hc
  have e1:Extern.findNext fn=none:=by
   simp only [Extern.findNext,c2,c3]; kernel_rfl
  have e2:Extern.find fn=some Extern.BytealgCompare.compare:=by
   simp only [Extern.find,c2,c3]; kernel_rfl
  have e3:("internal/bytealg.Compare" == "runtime.NumGoroutine")=false:=by decide
  rw [hs]
  simp only [callFunc,Sem.run_bind,run_program,Result.andThen_ok,hf,c2,e3,c1,e1,e2,Bool.false_eq_true,if_false,if_true,run_mark]
  have e4:Extern.BytealgCompare.compare [a,b].toArray=(do pure (goInt (Extern.BytealgCompare.cmp (← Extern.Bytes.bytesOf a) (← Extern.Bytes.bytesOf b))):Sem Value):=rfl
  rw [e4]
  simp only [Sem.run_bind,bytesAt_run H h1 g1,bytesAt_run H h2 g2,Result.andThen_ok,Sem.run_pure]
 ·cases hr
theorem callFn_run (hC:C.Ok) {ρ:Ren} {h:Heap} {n:Nat} {fn:Fn} {args caps:List V} {r:Out} {w:World} (H:HRel ρ h w) (hr:callFn C h n fn args caps=some r) {xs ys:List Value}
  (h1:VRels ρ args xs) (h2:VRels ρ caps ys) {s:Sem Next} (hs:s.run C.P w=(invoke (.fn fn ys.toArray) xs.toArray).run C.P w):ActOk C ρ h n w s r:=by
 unfold callFn at hr
 split at hr
 ·rename_i f
  split at hr
  ·rename_i hX
   obtain ⟨fn,k1,k2⟩:=hC.ext f hX
   exact compare_run H hr (h1.append h2) k1 k2 (by rw [hs]; simp [invoke])
  ·cases hr
   exact ⟨xs++ys,by rw [hs]; simp [invoke],h1.append h2⟩
 ·cases hr
 ·rename_i t path f pr
  replace hr:=of_cond_some hr
  obtain ⟨hp,hr⟩:=hr
  split at hr
  ·rename_i u rest
   obtain ⟨x,zs,rfl,g1,g2⟩:=h1.cons_inv
   replace hr:=of_bind hr
   obtain ⟨i,hi,hr⟩:=hr
   obtain ⟨ti,sp⟩:=hC.spec hi
   have hpath:path.toList=[]:=by simpa using hp
   have hrun:(receiverAt t (.val x) pr none).run C.P w=.ok x w→r=.enter f (u::rest)→ActOk C ρ h n w s r:=by
    rintro hy rfl
    refine ⟨x::zs,?_,.cons g1 g2⟩
    rw [hs]
    have:(x::zs).toArray.extract 1 (x::zs).toArray.size=zs.toArray:=by simp
    simp only [invoke,receiverVia,List.getElem?_toArray,List.getElem?_cons_zero,Sem.run_bind,hpath,follow,Sem.run_pure,Result.andThen_ok,hy,this]
    simp
   have hund:=sp.run_und w
   generalize i.desc=d at hr hund
   cases d <;> cases pr <;> simp only [reduceCtorEq] at hr <;> cases hr <;> refine hrun ?_ rfl <;>
    simp only [receiverAt,Sem.run_bind,hund,Result.andThen_ok,Place.get,Sem.run_pure]
  ·cases hr
 ·cases hr
theorem act_run (hC:C.Ok) {ρ:Ren} {h:Heap} {w:World} (H:HRel ρ h w) {n:Nat} (hf:Fr ρ n) {ev:Operand→Option V} {σ:Operand→Value} {o:Oper} {r:Out}
  (hr:act C ev o h n=some r) (hev:∀ x∈o.op.operands,∀ u,ev x=some u→VRel ρ u (σ x)):ActOk C ρ h n w (execOp σ o) r:=by
 obtain ⟨dst,op,type,pos,after,guard⟩:=o
 have skip:∀ {s:Sem Unit} {h':Heap},(∃ w',s.run C.P w=.ok () w'∧Evo ρ h n w ρ h' n w')→ActOk C ρ h n w (do s; pure .skip) (.val undefV h' n):=by
  rintro s h' ⟨w',h1,h2⟩
  exact ⟨undef,w',ρ,.inr ⟨by simp only [Sem.run_bind,h1,Result.andThen_ok,Sem.run_pure],rfl⟩,h2,.s _⟩
 have value:∀ {s:Sem Value} {v:V} {h':Heap} {n':Nat},(∃ y w' ρ',s.run C.P w=.ok y w'∧Evo ρ h n w ρ' h' n' w'∧VRel ρ' v y) →
   ActOk C ρ h n w (do pure (.value (← s))) (.val v h' n'):=by
  rintro s v h' n' ⟨y,w',ρ',h1,h2,h3⟩
  exact ⟨y,w',ρ',.inl (by simp only [Sem.run_bind,h1,Result.andThen_ok,Sem.run_pure]),h2,h3⟩
 cases op with
 | store t a x=>
  simp only [act] at hr
  replace hr:=of_bind hr
  obtain ⟨p,hp,hr⟩:=hr
  replace hr:=of_bind hr
  obtain ⟨q,hq,hr⟩:=hr
  replace hr:=of_bind hr
  obtain ⟨v,hv,hr⟩:=hr
  replace hr:=of_bind hr
  obtain ⟨h',hs,hr⟩:=hr
  cases hr
  have e1:=hev a (by simp [Op.operands]) _ hp
  have e2:=hev x (by simp [Op.operands]) _ hv
  obtain ⟨c,sh,ex,g1,g2⟩:=asPtr_rel hq e1
  refine skip ?_
  obtain ⟨w',k1,k2⟩:=store_run hC H hs g1 e2 n
  refine ⟨w',?_,k2⟩
  simp only [g2,Instr.storeAt]
  exact k1
 | mapUpdate t m k x=>
  simp only [act] at hr
  replace hr:=of_bind hr
  obtain ⟨mv,hm,hr⟩:=hr
  replace hr:=of_bind hr
  obtain ⟨kv,hk,hr⟩:=hr
  replace hr:=of_bind hr
  obtain ⟨xv,hx,hr⟩:=hr
  replace hr:=of_bind hr
  obtain ⟨h',hs,hr⟩:=hr
  cases hr
  exact skip (mapUpdate_run hC H hs (hev m (by simp [Op.operands]) _ hm) (hev k (by simp [Op.operands]) _ hk) (hev x (by simp [Op.operands]) _ hx) n)
 | insert t m k x=>
  simp only [act] at hr
  replace hr:=of_bind hr
  obtain ⟨mv,hm,hr⟩:=hr
  replace hr:=of_bind hr
  obtain ⟨kv,hk,hr⟩:=hr
  replace hr:=of_bind hr
  obtain ⟨xv,hx,hr⟩:=hr
  replace hr:=of_bind hr
  obtain ⟨h',hs,hr⟩:=hr
  cases hr
  exact skip (mapUpdate_run hC H hs (hev m (by simp [Op.operands]) _ hm) (hev k (by simp [Op.operands]) _ hk) (hev x (by simp [Op.operands]) _ hx) n)
 | range t x=>
  simp only [act] at hr
  replace hr:=of_bind hr
  obtain ⟨i,hi,hr⟩:=hr
  replace hr:=of_bind hr
  obtain ⟨v,hv,hr⟩:=hr
  obtain ⟨u,h',n',y,w',ρ',rfl,k1,k2,k3⟩:=range_run hC H hi hr (hev x (by simp [Op.operands]) _ hv) (hf n (Nat.le_refl _))
  exact value ⟨y,w',ρ',k1,k2,k3⟩
 | next it isString=>
  simp only [act] at hr
  replace hr:=of_bind hr
  obtain ⟨p,hp,hr⟩:=hr
  replace hr:=of_bind hr
  obtain ⟨q,hq,hr⟩:=hr
  replace hr:=of_cond_some hr
  obtain ⟨h0,hr⟩:=hr
  obtain ⟨c,sh,ex,g1,g2⟩:=asPtr_rel hq (hev it (by simp [Op.operands]) _ hp)
  obtain ⟨u,h',y,w',rfl,k1,k2,k3⟩:=next_run hC H g1 (by simpa using h0) (t:=type) hr
  refine value ⟨y,w',ρ,?_,k2,k3⟩
  rw [g2]; exact k1
 | call c=>
  simp only [act] at hr
  replace hr:=of_bind hr
  obtain ⟨args,ha,hr⟩:=hr
  have hargs:VRels ρ args (c.args.toList.map σ):=evs_rel ha (fun x hx u hu=>hev x (by simp only [Op.operands,Call.operands,Array.mem_append]; exact .inr (Array.mem_def.2 hx)) u hu)
  have hmap:c.args.map σ=(c.args.toList.map σ).toArray:=by rw [← Array.toList_map]
  generalize hxs:c.args.toList.map σ=xs at hargs hmap
  split at hr
  ·rename_i f hc
   replace hr:=of_bind hr
   obtain ⟨fv,hfv,hr⟩:=hr
   have e1:=hev f (by simp [Op.operands,Call.operands,hc]) _ hfv
   split at hr
   ·rename_i fn first caps
    generalize hy:σ f=y at e1
    cases e1 with | @func _ _ _ ys zs g1 g2=>
    refine callFn_run hC H hr (g1.append hargs) g2 ?_
    simp only [execOp,resolve,hc,hy,Deferred.ofValue,Sem.run_bind,Sem.run_pure,Result.andThen_ok,hmap]
    simp
   ·rename_i l
    cases hr
    generalize hy:σ f=y at e1
    cases e1 with | @yield _ c' sh ex g1=>
    refine ⟨c',sh,ex,xs,g1,?_,hargs⟩
    simp only [execOp,resolve,hc,hy,Deferred.ofValue,Sem.run_bind,Sem.run_pure,Result.andThen_ok,hmap,invoke]
    simp
   ·cases hr
  ·rename_i recv m hc
   replace hr:=of_bind hr
   obtain ⟨rv,hrv,hr⟩:=hr
   have e1:=hev recv (by simp [Op.operands,Call.operands,hc]) _ hrv
   split at hr
   ·rename_i t x
    replace hr:=of_bind hr
    obtain ⟨q,hq,hr⟩:=hr
    cases hr
    generalize hy:σ recv=y at e1
    cases e1 with | @iface _ _ x' g=>
    obtain ⟨y,k1,k2⟩:=methodOf_run hC hq g w (C.P.types.size+Made.depth-1)
    have hd:C.P.types.size+Made.depth-1+1=C.P.types.size+Made.depth:=by simp [Made.depth]
    rw [hd] at k1
    refine ⟨y::xs,?_,.cons k2 hargs⟩
    simp only [execOp,resolve,hc,hy,Sem.run_bind,Sem.run_pure,Result.andThen_ok,hmap,invoke]
    simp [callMethod,k1]
   ·cases hr
  ·rename_i hc
   split at hr
   ·replace hr:=of_bind hr
    obtain ⟨t0,h0,hr⟩:=hr
    replace hr:=of_bind hr
    obtain ⟨t1,h1,hr⟩:=hr
    replace hr:=of_bind hr
    obtain ⟨q,hq,hr⟩:=hr
    cases hr
    obtain ⟨x,l1,rfl,g1,hargs⟩:=hargs.cons_inv
    obtain ⟨y,l2,rfl,g2,hargs⟩:=hargs.cons_inv
    cases hargs.nil_inv
    have:=value (append_run hC H (rt:=type) hq h0 h1 g1 g2 hf.fresh)
    simp only [execOp,resolve,hc,hmap]
    exact this
   ·cases hr
  ·rename_i hc
   split at hr
   ·replace hr:=of_bind hr
    obtain ⟨t0,h0,hr⟩:=hr
    replace hr:=of_bind hr
    obtain ⟨q,hq,hr⟩:=hr
    cases hr
    obtain ⟨x,l1,rfl,g1,hargs⟩:=hargs.cons_inv
    obtain ⟨y,l2,rfl,g2,hargs⟩:=hargs.cons_inv
    cases hargs.nil_inv
    obtain ⟨z,w',k1,k2,k3⟩:=copy_run hC H (rt:=type) hq h0 g1 g2 n
    have:=value ⟨z,w',ρ,k1,k2,k3⟩
    simp only [execOp,resolve,hc,hmap]
    exact this
   ·cases hr
  ·rename_i hc
   split at hr
   ·replace hr:=of_bind hr
    obtain ⟨t0,h0,hr⟩:=hr
    replace hr:=of_bind hr
    obtain ⟨h',hq,hr⟩:=hr
    cases hr
    obtain ⟨x,l1,rfl,g1,hargs⟩:=hargs.cons_inv
    obtain ⟨y,l2,rfl,g2,hargs⟩:=hargs.cons_inv
    cases hargs.nil_inv
    obtain ⟨w',k1,k2⟩:=mapDelete_run hC H (rt:=type) hq h0 g1 g2 n
    have:=value ⟨_,w',ρ,k1,k2,(.s _:VRel ρ undefV (.tuple #[]))⟩
    simp only [execOp,resolve,hc,hmap]
    exact this
   ·cases hr
  ·cases hr
 | _=>simp [act] at hr
end Go.Ev
end
