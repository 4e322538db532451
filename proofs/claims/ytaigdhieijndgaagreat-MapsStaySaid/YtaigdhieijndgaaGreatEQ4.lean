import Derived.Test.YtaigdhieijndgaaGreatEQ3
section
namespace Go.Ev
variable {C:Ctx}
theorem evs_rel {ρ:Ren} {ev:Operand→Option V} {σ:Operand→Value}:∀ {l:List Operand} {vs:List V},evs ev l=some vs→(∀ x∈l,∀ u,ev x=some u→VRel ρ u (σ x))→VRels ρ vs (l.map σ)
 | [],vs,h,_=>by simp [evs] at h; subst h; exact .nil
 | x::l,vs,h,hev=>by
  simp only [evs] at h
  replace h:=of_bind h
  obtain ⟨v,hv,h⟩:=h
  replace h:=of_bind h
  obtain ⟨us,hu,h⟩:=h
  cases h
  exact .cons (hev x (by simp) v hv) (evs_rel hu (fun y hy=>hev y (by simp [hy])))
theorem evp_rel {ρ:Ren} {ev:Operand→Option V} {σ:Operand→Value}:∀ {l:List (Nat×Operand)} {vs:List (Nat×V)},evp ev l=some vs→(∀ p∈l,∀ u,ev p.2=some u→VRel ρ u (σ p.2)) →
  NRels ρ vs (l.map fun (i,x)=>(i,σ x))
 | [],vs,h,_=>by simp [evp] at h; subst h; exact .nil
 | (i,x)::l,vs,h,hev=>by
  simp only [evp] at h
  replace h:=of_bind h
  obtain ⟨v,hv,h⟩:=h
  replace h:=of_bind h
  obtain ⟨us,hu,h⟩:=h
  cases h
  exact .cons (hev (i,x) (by simp) v hv) (evp_rel hu (fun y hy=>hev y (by simp [hy])))
theorem evo_rel {ρ:Ren} {ev:Operand→Option V} {σ:Operand→Value} {o:Option Operand} {v:Option V} (h:evo ev o=some v) (hev:∀ x,o=some x→∀ u,ev x=some u→VRel ρ u (σ x)) :
  OptRel ρ v (o.map σ):=by
 cases o with
 | none=>simp [evo] at h; subst h; exact .none
 | some x=>
  simp only [evo] at h
  replace h:=of_bind h
  obtain ⟨u,hu,h⟩:=h
  cases h
  exact .some (hev x rfl u hu)
theorem scalars_rel {ρ:Ren}:∀ {l:List V} {vs:List Value} {xs:List Value},scalars l=some vs→VRels ρ l xs→xs=vs
 | [],vs,xs,h,hr=>by simp [scalars] at h; subst h; exact hr.nil_inv
 | v::l,vs,xs,h,hr=>by
  obtain ⟨y,ys,rfl,h1,h2⟩:=hr.cons_inv
  unfold scalars at h
  split at h
  ·rename_i e; cases e
  ·rename_i a l' e
   cases e
   replace h:=of_bind h
   obtain ⟨us,hu,h⟩:=h
   cases h
   cases h1
   rw [scalars_rel hu h2]
  ·cases h
theorem rd_run (hC:C.Ok) {ρ:Ren} {h:Heap} {w:World} (H:HRel ρ h w) {ev:Operand→Option V} {σ:Operand→Value} {o:Oper} {v:V} (hr:rd C ev o h=some v)
  (hev:∀ x∈o.op.operands,∀ u,ev x=some u→VRel ρ u (σ x)):∃ y,(execOp σ o).run C.P w=.ok (.value y) w∧VRel ρ v y:=by
 obtain ⟨dst,op,type,pos,after,guard⟩:=o
 have lift:∀ {s:Sem Value},(∃ y,s.run C.P w=.ok y w∧VRel ρ v y)→∃ y,(do pure (.value (← s)):Sem Next).run C.P w=.ok (.value y) w∧VRel ρ v y:=by
  rintro s ⟨y,h1,h2⟩
  exact ⟨y,by simp only [Sem.run_bind,h1,Result.andThen_ok,Sem.run_pure],h2⟩
 cases op with
 | move x=>exact ⟨σ x,rfl,hev x (by simp [Op.operands]) v hr⟩
 | assign x=>exact ⟨σ x,rfl,hev x (by simp [Op.operands]) v hr⟩
 | pick c a b=>
  simp only [rd] at hr
  replace hr:=of_bind hr
  obtain ⟨cv,hc,hr⟩:=hr
  replace hr:=of_bind hr
  obtain ⟨t,ht,hr⟩:=hr
  have:=asBool_rel ht (hev c (by simp [Op.operands]) cv hc)
  simp only [execOp,this,Go.asBool]
  cases t
  ·exact ⟨σ b,by simp,hev b (by simp [Op.operands]) v hr⟩
  ·exact ⟨σ a,by simp,hev a (by simp [Op.operands]) v hr⟩
 | build t ps=>
  simp only [rd] at hr
  replace hr:=of_bind hr
  obtain ⟨vs,hvs,hr⟩:=hr
  have hn:=evp_rel (σ:=σ) hvs (fun p hp u hu=>hev p.2 (by simp only [Op.operands]; rw [List.mem_toArray]; exact List.mem_map.2 ⟨p,hp,rfl⟩) u hu)
  exact lift (build_run hC hr (ps:=ps.map fun (i,x)=>(i,σ x)) (by simpa using hn) w)
 | load t a=>
  simp only [rd] at hr
  replace hr:=of_bind hr
  obtain ⟨u,hu,hr⟩:=hr
  replace hr:=of_bind hr
  obtain ⟨p,hp,hr⟩:=hr
  obtain ⟨c,sh,ex,h1,h2⟩:=asPtr_rel hp (hev a (by simp [Op.operands]) u hu)
  obtain ⟨y,l1,l2,_⟩:=load_run hC H hr h1
  exact lift ⟨y,by simp only [h2,Instr.loadAt,Instr.sureAddr,Sem.run_bind,Sem.run_pure,Result.andThen_ok,l1],l2⟩
 | nilCheck x=>
  simp only [rd] at hr
  replace hr:=of_bind hr
  obtain ⟨u,hu,hr⟩:=hr
  have hx:=hev x (by simp [Op.operands]) u hu
  generalize hy:σ x=y at hx
  split at hr <;> cases hr
  ·cases hx with | ptr h1=>exact ⟨_,by simp [execOp,hy],.ptr h1⟩
  ·cases hx with | func h1 h2=>exact ⟨_,by simp [execOp,hy],.func h1 h2⟩
  ·cases hx with | iface h1=>exact ⟨_,by simp [execOp,hy],.iface h1⟩
 | binOp op xt x y yt=>
  simp only [rd] at hr
  replace hr:=of_bind hr
  obtain ⟨a,ha,hr⟩:=hr
  replace hr:=of_bind hr
  obtain ⟨b,hb,hr⟩:=hr
  exact lift (binop_run hC hr (hev x (by simp [Op.operands]) a ha) (hev y (by simp [Op.operands]) b hb) w)
 | unOp op xt x=>
  simp only [rd] at hr
  replace hr:=of_bind hr
  obtain ⟨u,hu,hr⟩:=hr
  have hx:=hev x (by simp [Op.operands]) u hu
  generalize hy:σ x=y at hx
  split at hr
  ·replace hr:=of_bind hr
   obtain ⟨z,hz,hr⟩:=hr
   cases hr
   cases hx
   have:=pure?_run hz w
   simp only [execOp,hy]
   exact lift ⟨z,this,.s _⟩
  ·cases hr
 | convert src dst x=>
  simp only [rd] at hr
  replace hr:=of_bind hr
  obtain ⟨u,hu,hr⟩:=hr
  exact lift (convert_run hC H hr (hev x (by simp [Op.operands]) u hu))
 | makeInterface t x=>
  simp only [rd] at hr
  replace hr:=of_bind hr
  obtain ⟨u,hu,hr⟩:=hr
  replace hr:=of_bind hr
  obtain ⟨i,hi,hr⟩:=hr
  obtain ⟨_,sp⟩:=hC.spec hi
  have hU:=sp.und
  split at hr
  ·cases hr
  ·rename_i hno
   cases hr
   refine lift ⟨.iface t (σ x),?_,.iface (hev x (by simp [Op.operands]) u hu)⟩
   cases hd:i.desc <;> rw [hd] at hU <;> first
    | exact (hno _ hd).elim
    | simp [Instr.makeInterface,run_underlying hU]
 | makeFunc fn first caps=>
  simp only [rd] at hr
  replace hr:=of_bind hr
  obtain ⟨a,ha,hr⟩:=hr
  replace hr:=of_bind hr
  obtain ⟨b,hb,hr⟩:=hr
  split at hr
  ·cases hr
  ·cases hr
   have h1:=evs_rel (σ:=σ) ha (fun x hx u hu=>hev x (by simp only [Op.operands]; exact Array.mem_append.2 (.inl (by simpa using hx))) u hu)
   have h2:=evs_rel (σ:=σ) hb (fun x hx u hu=>hev x (by simp only [Op.operands]; exact Array.mem_append.2 (.inr (by simpa using hx))) u hu)
   refine lift ⟨.func fn (first.map σ) (caps.map σ),rfl,?_⟩
   have e:∀ a:Array Operand,(a.toList.map σ).toArray=a.map σ:=fun a=>by rw [← Array.toList_inj]; simp
   have:=VRel.func (fn:=fn) h1 h2
   rw [e,e] at this
   exact this
 | slice t x lo hi mx=>
  simp only [rd] at hr
  replace hr:=of_bind hr
  obtain ⟨u,hu,hr⟩:=hr
  replace hr:=of_bind hr
  obtain ⟨l,hl,hr⟩:=hr
  replace hr:=of_bind hr
  obtain ⟨hh,hhh,hr⟩:=hr
  replace hr:=of_bind hr
  obtain ⟨m,hm,hr⟩:=hr
  have e1:=evo_rel (σ:=σ) hl (fun y hy u hu=>hev y (by subst hy; simp [Op.operands]) u hu)
  have e2:=evo_rel (σ:=σ) hhh (fun y hy u hu=>hev y (by subst hy; simp [Op.operands]) u hu)
  have e3:=evo_rel (σ:=σ) hm (fun y hy u hu=>hev y (by subst hy; simp [Op.operands]) u hu)
  exact lift (sliceOp_run hC hr (hev x (by simp [Op.operands]) u hu) e1 e2 e3 w)
 | fieldAddr st x f=>
  simp only [rd] at hr
  replace hr:=of_bind hr
  obtain ⟨u,hu,hr⟩:=hr
  replace hr:=of_bind hr
  obtain ⟨p,hp,hr⟩:=hr
  replace hr:=of_bind hr
  obtain ⟨i,hi,hr⟩:=hr
  obtain ⟨c,sh,ex,h1,h2⟩:=asPtr_rel hp (hev x (by simp [Op.operands]) u hu)
  split at hr
  ·rename_i fs hd
   replace hr:=of_bind hr
   obtain ⟨q,hq,hr⟩:=hr
   obtain ⟨g,hr⟩:=of_cond_none hr
   cases hr
   simp only [beq_false_iff] at g
   have:=fieldAddr_run hC hi hd hq g h1 w (off:=p.2)
   exact lift ⟨_,by rw [h2]; exact this,.ptr h1⟩
  ·cases hr
 | field st x f=>
  simp only [rd] at hr
  replace hr:=of_bind hr
  obtain ⟨u,hu,hr⟩:=hr
  replace hr:=of_bind hr
  obtain ⟨i,hi,hr⟩:=hr
  have hx:=hev x (by simp [Op.operands]) u hu
  split at hr
  ·rename_i fs cs hd
   replace hr:=of_bind hr
   obtain ⟨q,hq,hr⟩:=hr
   exact lift (field_run hC hi hd hq hr hx w)
  ·cases hr
 | indexAddr t x ix=>
  simp only [rd] at hr
  replace hr:=of_bind hr
  obtain ⟨u,hu,hr⟩:=hr
  replace hr:=of_bind hr
  obtain ⟨k,hk,hr⟩:=hr
  exact lift (indexAddr_run hC hr (hev x (by simp [Op.operands]) u hu) (hev ix (by simp [Op.operands]) k hk) w)
 | index t x ix=>
  simp only [rd] at hr
  replace hr:=of_bind hr
  obtain ⟨u,hu,hr⟩:=hr
  replace hr:=of_bind hr
  obtain ⟨k,hk,hr⟩:=hr
  exact lift (index_run hC hr (hev x (by simp [Op.operands]) u hu) (hev ix (by simp [Op.operands]) k hk) w)
 | lookup t x ix ok=>
  simp only [rd] at hr
  replace hr:=of_bind hr
  obtain ⟨u,hu,hr⟩:=hr
  replace hr:=of_bind hr
  obtain ⟨k,hk,hr⟩:=hr
  exact lift (lookup_run hC H hr (hev x (by simp [Op.operands]) u hu) (hev ix (by simp [Op.operands]) k hk))
 | extract t i=>
  simp only [rd] at hr
  replace hr:=of_bind hr
  obtain ⟨u,hu,hr⟩:=hr
  have hx:=hev t (by simp [Op.operands]) u hu
  split at hr
  ·generalize hy:σ t=y at hx
   cases hx with | tup hs=>
   obtain ⟨y,h1,h2⟩:=hs.get hr
   refine lift ⟨y,?_,h2⟩
   simp [Instr.extract,hy,h1]
  ·cases hr
 | typeAssert x xt a ok=>
  simp only [rd] at hr
  replace hr:=of_bind hr
  obtain ⟨u,hu,hr⟩:=hr
  exact lift (typeAssert_run hC hr (hev x (by simp [Op.operands]) u hu) w)
 | call c=>
  obtain ⟨callee,cargs,cats⟩:=c
  simp only [rd] at hr
  replace hr:=of_bind hr
  obtain ⟨args,ha,hr⟩:=hr
  have hargs:=evs_rel (σ:=σ) ha (fun x hx u hu=>hev x (by simp only [Op.operands,Call.operands]; exact Array.mem_append.2 (.inr (by simpa using hx))) u hu)
  have run:∀ (b:Builtin) (s:Array Value→Sem Value),callee=.builtin b→(∀ consts as,Go.builtin b cats type consts as=(do pure (.value (← s as)):Sem Next)) →
    (∃ y,(s (cargs.map σ)).run C.P w=.ok y w∧VRel ρ v y)→∃ y,(execOp σ ⟨dst,.call ⟨callee,cargs,cats⟩,type,pos,after,guard⟩).run C.P w=.ok (.value y) w∧VRel ρ v y:=by
   rintro b s rfl hb ⟨y,h1,h2⟩
   refine ⟨y,?_,h2⟩
   simp only [execOp,resolve,invoke,Sem.run_bind,Sem.run_pure,Result.andThen_ok,hb,h1]
  have sc:∀ (b:Builtin) (s:Array Value→Sem Value),callee=.builtin b→(∀ consts as,Go.builtin b cats type consts as=(do pure (.value (← s as)):Sem Next)) →
    ((scalars args).bind fun ys=>(pure? C.P (s ys.toArray)).bind fun v=>some (V.s v))=some v →
    ∃ y,(execOp σ ⟨dst,.call ⟨callee,cargs,cats⟩,type,pos,after,guard⟩).run C.P w=.ok (.value y) w∧VRel ρ v y:=by
   intro b s hc hb h
   replace h:=of_bind h
   obtain ⟨ys,hys,h⟩:=h
   replace h:=of_bind h
   obtain ⟨z,hz,h⟩:=h
   cases h
   have e:=scalars_rel hys hargs
   refine run b s hc hb ⟨z,?_,.s _⟩
   have:cargs.map σ=ys.toArray:=by rw [← e,← Array.toList_inj]; simp
   rw [this]
   exact pure?_run hz w
  split at hr
  ·rename_i x
   replace hr:=of_bind hr
   obtain ⟨t,ht,hr⟩:=hr
   obtain ⟨y,ys,e,h1,h2⟩:=hargs.cons_inv
   have e2:=h2.nil_inv
   subst e2
   have:cargs.map σ=#[y]:=by rw [← Array.toList_inj]; simpa using e
   exact run .len (fun as=>Builtin.len_ cats type as) rfl (fun _ _=>rfl) (by rw [this]; exact lenV_run hC H hr ht h1)
  ·rename_i x
   replace hr:=of_bind hr
   obtain ⟨t,ht,hr⟩:=hr
   obtain ⟨y,ys,e,h1,h2⟩:=hargs.cons_inv
   have e2:=h2.nil_inv
   subst e2
   have:cargs.map σ=#[y]:=by rw [← Array.toList_inj]; simpa using e
   exact run .cap (fun as=>Builtin.cap_ cats type as) rfl (fun _ _=>rfl) (by rw [this]; exact capV_run hC hr ht h1)
  ·exact sc .min (fun as=>Builtin.min_ cats type as) rfl (fun _ _=>rfl) hr
  ·exact sc .max (fun as=>Builtin.max_ cats type as) rfl (fun _ _=>rfl) hr
  ·exact sc .real (fun as=>Builtin.real_ cats type as) rfl (fun _ _=>rfl) hr
  ·exact sc .imag (fun as=>Builtin.imag_ cats type as) rfl (fun _ _=>rfl) hr
  ·exact sc .complex (fun as=>Builtin.complex_ cats type as) rfl (fun _ _=>rfl) hr
  ·cases hr
 | _=>cases hr
end Go.Ev
end
section
namespace Go.Ev
variable {C:Ctx}
theorem range_mod {α:Type} [Inhabited α] (z:List α) (f:Nat→α) (hf:∀ i,i<z.length→some (f i)=z[i]?) (hp:0<z.length):∀ n,(List.range (n*z.length)).map (fun i=>f (i % z.length))=(List.replicate n z).flatten
 | 0=>by simp
 | n+1=>by
  rw [show (n+1)*z.length=z.length+n*z.length from by rw [Nat.add_mul]; omega,List.range_add,List.map_append,List.map_map,List.replicate_succ,List.flatten_cons,← range_mod z f hf hp n]
  congr 1
  ·apply List.ext_getElem?
   intro i
   by_cases hi:i<z.length
   ·simp only [List.getElem?_map,List.getElem?_range hi,Option.map_some]
    rw [Nat.mod_eq_of_lt hi,hf i hi]
   ·rw [List.getElem?_eq_none (by simp; omega),List.getElem?_eq_none (by omega)]
  ·apply List.map_congr_left
   intro i _
   simp
theorem zero_cells (z:Array Value) (n:Nat) (hz:z.size≠0):(Array.range (n*z.size)).map (fun i=>z[i % z.size]!)=((List.replicate n z.toList).flatten).toArray:=by
 apply Array.toList_inj.1
 rw [Array.toList_map,Array.toList_range]
 have:=range_mod z.toList (fun i=>z[i]!) (fun i hi=>by
  have hi:i<z.size:=by simpa using hi
  simp [hi]) (by simp; omega) n
 simpa using this
theorem range0_map (f:Nat→Value):(Array.range 0).map f=([]:List Value).toArray:=by simp
theorem wrap_i64 {n:Nat} (h:n<9223372036854775808):IntKind.i64.wrap (n:Int)=n:=by
 unfold IntKind.wrap
 simp only [IntKind.bits,IntKind.signed,Bool.true_and,decide_eq_true_eq,show ((2:Int) ^ 64)=18446744073709551616 from rfl,show ((2:Int) ^ (64-1))=9223372036854775808 from rfl]
 rw [if_neg (by omega)]
 omega
theorem run_stringToBytes {P:Program} (e:TypeId) (s:ByteArray) (w:World) (cap:Nat) (hcap:cap=s.size+w.tape w.drawn (.appendCap s.size 0 e) % (2 ^ 63-s.size)) :
  (Conv.stringToBytes e s).run P w=.ok (.slice (some ⟨w.heap.size,0,none⟩) s.size cap)
   (w.drew.alloc (.cells ((s.data.toList.map fun b=>Value.int .u8 b.toNat)++List.replicate (cap-s.size) (Value.int .u8 0)).toArray e (cap,cap+1))):=by
 have h1:(s.data.map fun b=>Value.int .u8 b.toNat)++Array.replicate (cap-s.size) (Value.int .u8 0)=((s.data.toList.map fun b=>Value.int .u8 b.toNat)++List.replicate (cap-s.size) (Value.int .u8 0)).toArray:=by
  apply Array.toList_inj.1; simp
 have hsz:s.data.size=s.size:=rfl
 have h2:(((s.data.toList.map fun b=>Value.int .u8 b.toNat)++List.replicate (cap-s.size) (Value.int .u8 0)).toArray).size=cap:=by simp [hsz]; omega
 generalize ((s.data.toList.map fun b=>Value.int .u8 b.toNat)++List.replicate (cap-s.size) (Value.int .u8 0)).toArray=arr at h1 h2 ⊢
 have hc:(choose (.appendCap s.size 0 e)).run P w=.ok cap w.drew:=by
  rw [run_choose]; simp [Question.forced,Question.cut,← hcap]
 have hshape:(w.drew.alloc (.cells arr e)).shape? w.heap.size=some (e,arr.size):=by
  have:(w.drew.alloc (.cells arr e)).heap[w.heap.size]? = some (.cells arr e):=by show (w.heap.push _)[w.heap.size]? = _; simp
  unfold World.shape?
  rw [this]
 have hfr:(w.drew.alloc (.cells arr e)).freeze ⟨w.heap.size,arr.size,none⟩ 1=w.drew.alloc (.cells arr e (cap,cap+1)):=by
  unfold World.freeze World.alloc
  simp only [Nat.one_ne_zero,if_false]
  congr 1
  apply Array.ext_getElem?
  intro k
  rw [Array.getElem?_modify]
  by_cases hk:w.heap.size=k
  ·subst hk
   rw [if_pos rfl]
   show ((w.heap.push (Obj.cells arr e))[w.heap.size]?).map _=(w.heap.push (Obj.cells arr e (cap,cap+1)))[w.heap.size]?
   simp [h2]
  ·simp only [if_neg hk]
   show (w.heap.push _)[k]? = (w.heap.push _)[k]?
   simp only [Array.getElem?_push]
   rw [if_neg (fun e=>hk e.symm),if_neg (fun e=>hk e.symm)]
 simp only [Conv.stringToBytes,Sem.run_bind,hc,Result.andThen_ok,h1,newRow,run_newObj,Sem.run_pure]
 have:({ w.drew with heap:=w.drew.heap.push (.cells arr e) }:World)=w.drew.alloc (.cells arr e):=rfl
 rw [this]
 simp only [markStringish,Sem.run_bind,run_shape,World.size_drew,hshape,Result.andThen_ok,run_freeze,hfr]
def Mk.cval (c ex:Nat):Mk→Value
 | .ptr=>.pointer (some ⟨c,0,none⟩)
 | .slice len cap op=>.slice (some ⟨c,0,none⟩) len (cap+xcap op ex)
 | .map=>.map (some c)
def Mk.Fine:Mk→Prop
 | .slice len cap _=>len≤cap
 | _=>True
theorem Mk.rel {ρ:Ren} {b c ex:Nat} {k:Mk} (hr:ρ b=some (c,0,ex)) (hf:k.Fine):VRel ρ (k.val b) (k.cval c ex):=by
 cases k with
 | ptr=>exact .ptr (off:=0) hr
 | slice len cap op=>exact .slice (off:=0) hr hf (fun _=>rfl)
 | map=>exact .map hr
theorem row_rel {ρ:Ren} {r:Rope V} {es:Nat} {xs:List Value} (t:TypeId) (ho:r.Ok) (hr:VRels ρ r.toList xs) (hc:∀ x∈xs,x.oneCell'=true) :
  ORel ρ 0 0 (.cells r es) (.cells xs.toArray t):=
 .cells ho [] xs [] (by simp) rfl hr hc (by simp) (fun i _ h=>by simp at h)
theorem mk_own {ev:Operand→Option V} {o:Oper} {m:O×Mk} (hm:mk C ev o=some m):m.1.own=true:=by
 unfold mk at hm
 repeat' (first | (replace hm:=of_bind hm; obtain ⟨_,_,hm⟩:=hm) | (replace hm:=of_cond_some hm; obtain ⟨_,hm⟩:=hm) | (split at hm) | (cases hm; done) | (cases hm; rfl))
theorem mk_run (hC:C.Ok) {ρ:Ren} {h:Heap} {w:World} (H:HRel ρ h w) {ev:Operand→Option V} {σ:Operand→Value} {o:Oper} {m:O×Mk} (hm:mk C ev o=some m)
  (hev:∀ x∈o.op.operands,∀ u,ev x=some u→VRel ρ u (σ x)) {n b n':Nat} (hb:ρ b=none) (hn:n≤b) (hn':b<n') :
  ∃ y w' ρ',(execOp σ o).run C.P w=.ok (.value y) w'∧Evo ρ h n w ρ' (h.set b m.1) n' w'∧VRel ρ' (m.2.val b) y:=by
 have fin:∀ (d:World) (x:Obj) (ex:Nat),HRel ρ h d→Evo ρ h n w ρ h n d→m.2.Fine→(∀ ρ':Ren,ρ.le ρ'→ORel ρ' 0 ex m.1 x) →
   (execOp σ o).run C.P w=.ok (.value (m.2.cval d.heap.size ex)) (d.alloc x) →
   ∃ y w' ρ',(execOp σ o).run C.P w=.ok (.value y) w'∧Evo ρ h n w ρ' (h.set b m.1) n' w'∧VRel ρ' (m.2.val b) y:=by
  intro d x ex Hd Ed hf hx hrun
  obtain ⟨ρ',h1,h2⟩:=Evo.alloc Hd hb hn n' hn' (mk_own hm) hx
  exact ⟨_,_,ρ',hrun,Ed.trans h2,Mk.rel h1 hf⟩
 obtain ⟨dst,op,type,pos,after,guard⟩:=o
 have newVar:∀ {t:TypeId} {x:Value} {s:Sem Addr},s=Go.newVar t x→s.run C.P w=.ok ⟨w.heap.size,0,none⟩ (w.alloc (.cells x.cells t)):=by
  rintro t x _ rfl
  simp [Go.newVar,Go.newRow]
 cases op with
 | alloc t=>
  simp only [mk] at hm
  replace hm:=of_bind hm
  obtain ⟨i,hi,hm⟩:=hm
  replace hm:=of_bind hm
  obtain ⟨z,hz,hm⟩:=hm
  replace hm:=of_bind hm
  obtain ⟨zs,hzs,hm⟩:=hm
  cases hm
  obtain ⟨_,sp⟩:=hC.spec hi
  obtain ⟨y,z1,z2,_⟩:=sp.run_zero hz ρ w
  obtain ⟨c1,c2,c3⟩:=z2.cells hzs
  refine fin w (.cells y.cells t) 0 H (.refl n H) trivial (fun ρ' hle=>?_) ?_
  ·have:=row_rel (es:=i.size) t c1 (c2.mono hle) c3
   simpa using this
  ·simp [execOp,Instr.alloc,z1,newVar rfl,Mk.cval]
 | box t x=>
  simp only [mk] at hm
  replace hm:=of_bind hm
  obtain ⟨v,hv,hm⟩:=hm
  replace hm:=of_bind hm
  obtain ⟨i,hi,hm⟩:=hm
  replace hm:=of_bind hm
  obtain ⟨cs,hcs,hm⟩:=hm
  cases hm
  have hx:=hev x (by simp [Op.operands]) v hv
  obtain ⟨c1,c2,c3⟩:=hx.cells hcs
  refine fin w (.cells (σ x).cells t) 0 H (.refl n H) trivial (fun ρ' hle=>?_) ?_
  ·have:=row_rel (es:=i.size) t c1 (c2.mono hle) c3
   simpa using this
  ·simp [execOp,Instr.box,newVar rfl,Mk.cval]
 | buildSlice t len ps=>
  simp only [mk] at hm
  replace hm:=of_bind hm
  obtain ⟨i,hi,hm⟩:=hm
  obtain ⟨_,sp⟩:=hC.spec hi
  have hU:=sp.und
  split at hm
  ·rename_i e hd
   replace hm:=of_bind hm
   obtain ⟨j,hj,hm⟩:=hm
   replace hm:=of_bind hm
   obtain ⟨z,hz,hm⟩:=hm
   replace hm:=of_bind hm
   obtain ⟨zs,hzs,hm⟩:=hm
   replace hm:=of_bind hm
   obtain ⟨vs,hvs,hm⟩:=hm
   obtain ⟨g,hm⟩:=of_cond_some hm
   replace hm:=of_bind hm
   obtain ⟨r,hr,hm⟩:=hm
   cases hm
   simp only [Bool.and_eq_true,ble_true_iff,Bool.not_eq_true',beq_false_iff,beq_true_iff] at g
   obtain ⟨g1,g2,g3⟩:=g
   rw [hd] at hU
   obtain ⟨_,sj⟩:=hC.spec hj
   obtain ⟨y,z1,z2,_⟩:=sj.run_zero hz ρ w
   obtain ⟨c1,c2,c3⟩:=z2.cells hzs
   have hn:=evp_rel (σ:=σ) hvs (fun p hp u hu=>hev p.2 (by simp only [Op.operands]; rw [List.mem_toArray]; exact List.mem_map.2 ⟨p,hp,rfl⟩) u hu)
   obtain ⟨r1,r2,r3⟩:=Rope.rep_ok c1 len
   have hsz:y.cells.size=j.size:=by
    have:=c2.length
    rw [← g3,Rope.size_eq c1,this]; simp
   obtain ⟨ys,k1,k2,k3,k4⟩:=fillA_run (ps:=(ps.map fun (i,x)=>(i,σ x)).toList) (by simpa using hn) hr r1 (by rw [r2]; exact c2.replicate len) (by
    intro x hx
    simp only [List.mem_flatten,List.mem_replicate] at hx
    obtain ⟨l,⟨_,rfl⟩,hx⟩:=hx
    exact c3 x hx)
   refine fin w (.cells ys.toArray e) 0 H (.refl n H) (Nat.le_refl _) (fun ρ' hle=>row_rel e k2 (k3.mono hle) k4) ?_
   have hlim:¬ (len*j.size > 2 ^ 24):=by omega
   have hps:(ps.map fun (i,x)=>(i,σ x)).toList=ps.toList.map fun (i,x)=>(i,σ x):=by simp
   by_cases h0:len*j.size=0
   ·have hl:len=0:=by rcases Nat.mul_eq_zero.1 h0 with h | h; exact h; exact (g2 h).elim
    subst hl
    simp only [execOp,Instr.buildSlice,Sem.run_bind,run_underlying hU,Result.andThen_ok,sj.run_size,Sem.run_ite,hlim,if_false,h0,if_true,Sem.run_pure]
    simp only [List.replicate_zero,List.flatten_nil] at k1
    simp only [range0_map,k1]
    simp [Go.newRow,Mk.cval,xcap]
   ·have hfill:(Array.range (len*j.size)).map (fun i=>y.cells[i % y.cells.size]!)=((List.replicate len y.cells.toList).flatten).toArray:=by
     have:=zero_cells y.cells len (by omega)
     rw [hsz] at this
     rw [hsz]; exact this
    simp only [execOp,Instr.buildSlice,Sem.run_bind,run_underlying hU,Result.andThen_ok,sj.run_size,Sem.run_ite,hlim,if_false,h0,z1,Sem.run_pure,hfill,k1]
    simp [Go.newRow,Mk.cval,xcap]
  ·cases hm
 | makeMap t res=>
  cases res with
  | some _=>simp [mk] at hm
  | none=>
   simp only [mk] at hm
   cases hm
   refine fin w (.map #[] 0) 0 H (.refl n H) trivial (fun ρ' hle=>?_) ?_
   ·exact .map rfl .nil
   ·simp [execOp,Instr.makeMap,Mk.cval]
 | makeSlice t l c=>
  simp only [mk] at hm
  replace hm:=of_bind hm
  obtain ⟨i,hi,hm⟩:=hm
  obtain ⟨_,sp⟩:=hC.spec hi
  have hU:=sp.und
  split at hm
  ·rename_i e hd
   replace hm:=of_bind hm
   obtain ⟨j,hj,hm⟩:=hm
   replace hm:=of_bind hm
   obtain ⟨z,hz,hm⟩:=hm
   replace hm:=of_bind hm
   obtain ⟨zs,hzs,hm⟩:=hm
   replace hm:=of_bind hm
   obtain ⟨lv,hlv,hm⟩:=hm
   replace hm:=of_bind hm
   obtain ⟨ln,hln,hm⟩:=hm
   replace hm:=of_bind hm
   obtain ⟨cv,hcv,hm⟩:=hm
   replace hm:=of_bind hm
   obtain ⟨cn,hcn,hm⟩:=hm
   obtain ⟨g,hm⟩:=of_cond_some hm
   cases hm
   simp only [Bool.and_eq_true,ble_true_iff,blt_true_iff,Bool.not_eq_true',beq_false_iff,beq_true_iff] at g
   obtain ⟨g1,g2,g3,g4,g5⟩:=g
   rw [hd] at hU
   obtain ⟨xj,sj⟩:=hC.spec hj
   obtain ⟨y,z1,z2,_⟩:=sj.run_zero hz ρ w
   obtain ⟨c1,c2,c3⟩:=z2.cells hzs
   obtain ⟨k1,hl⟩:=asNat_rel hln (hev l (by simp [Op.operands]) lv hlv)
   obtain ⟨k2,hc⟩:=asNat_rel hcn (hev c (by simp [Op.operands]) cv hcv)
   obtain ⟨r1,r2,r3⟩:=Rope.rep_ok c1 cn
   have hsz:y.cells.size=j.size:=by
    have:=c2.length
    rw [← g5,Rope.size_eq c1,this]; simp
   refine fin w (.cells ((List.replicate cn y.cells.toList).flatten).toArray e) 0 H (.refl n H) g1 (fun ρ' hle=>row_rel e r1 (by rw [r2]; exact (c2.mono hle).replicate cn) (by
    intro x hx
    simp only [List.mem_flatten,List.mem_replicate] at hx
    obtain ⟨l,⟨_,rfl⟩,hx⟩:=hx
    exact c3 x hx)) ?_
   have hb:(xj.bytes:Int)*(cn:Int)≤281474976710656:=by
    rw [← sj.bytes,← Int.natCast_mul]
    generalize j.bytes*cn=q at g2 ⊢
    omega
   have w1:IntKind.i64.wrap (cn:Int)=cn:=wrap_i64 g3
   have w2:IntKind.i64.wrap (ln:Int)=ln:=wrap_i64 (by omega)
   have hno:(((decide ((cn:Int)<0) || decide ((xj.bytes:Int)*(cn:Int) > 2 ^ 48)) || decide ((ln:Int)<0)) || decide ((ln:Int) > (cn:Int)))=false:=by
    simp only [Bool.or_eq_false_iff,decide_eq_false_iff_not]
    refine ⟨⟨⟨by omega,by omega⟩,by omega⟩,by omega⟩
   by_cases h0:cn*j.size=0
   ·have hl0:cn=0:=by rcases Nat.mul_eq_zero.1 h0 with h | h; exact h; exact (g4 h).elim
    subst hl0
    obtain rfl:ln=0:=by omega
    simp only [execOp,hl,hc,Instr.makeSlice,Sem.run_bind,run_underlying hU,Result.andThen_ok,Go.asInt,asIntOf,Sem.run_pure,sj.run_info,w1,w2,hno,Bool.false_eq_true,if_false,Sem.run_ite,
     run_askRoom,Int.toNat_natCast,sj.run_size,h0,if_true,range0_map]
    simp [Go.newRow,Mk.cval,xcap]
   ·have hfill:(Array.range (cn*j.size)).map (fun i=>y.cells[i % y.cells.size]!)=((List.replicate cn y.cells.toList).flatten).toArray:=by
     have:=zero_cells y.cells cn (by omega)
     rw [hsz] at this
     rw [hsz]; exact this
    simp only [execOp,hl,hc,Instr.makeSlice,Sem.run_bind,run_underlying hU,Result.andThen_ok,Go.asInt,asIntOf,Sem.run_pure,sj.run_info,w1,w2,hno,Bool.false_eq_true,if_false,Sem.run_ite,
     run_askRoom,Int.toNat_natCast,sj.run_size,h0,z1,hfill]
    simp [Go.newRow,Mk.cval,xcap]
  ·cases hm
 | convert src dst x=>
  simp only [mk] at hm
  replace hm:=of_bind hm
  obtain ⟨v,hv,hm⟩:=hm
  replace hm:=of_bind hm
  obtain ⟨i,hi,hm⟩:=hm
  replace hm:=of_bind hm
  obtain ⟨j,hj,hm⟩:=hm
  obtain ⟨_,si⟩:=hC.spec hi
  obtain ⟨_,sj⟩:=hC.spec hj
  have hU:=si.und
  have hV:=sj.und
  have hx:=hev x (by simp [Op.operands]) v hv
  generalize hy:σ x=y at hx
  split at hm
  ·rename_i e s hd hd'
   replace hm:=of_bind hm
   obtain ⟨k,hk,hm⟩:=hm
   obtain ⟨_,sk⟩:=hC.spec hk
   have hW:=sk.und
   split at hm
   ·rename_i hd''
    cases hm
    cases hx
    rw [hd] at hU; rw [hd'] at hV; rw [hd''] at hW
    let cap:=s.size+w.tape w.drawn (.appendCap s.size 0 e) % (2 ^ 63-s.size)
    have hcap:s.size≤cap:=Nat.le_add_right _ _
    let elems:List Value:=s.data.toList.map fun b=>.int .u8 b.toNat
    have hel:elems.length=s.size:=by simp [elems]
    refine fin w.drew (.cells (elems++List.replicate (cap-s.size) (Value.int .u8 0)).toArray e (cap,cap+1)) (cap-s.size) H.drew (.drew H n) (Nat.le_refl _) (fun ρ' hle=>?_) ?_
    ·obtain ⟨o1,o2,o3⟩:=Rope.ofList_ok (bytesV s.data.toList)
     refine .cells o1 [] elems (List.replicate (cap-s.size) (Value.int .u8 0)) (by simp) rfl (by rw [o2]; exact .scalarsMap _ _) ?_ (by simp) ?_
     ·intro x hx
      simp only [elems,List.mem_map] at hx
      obtain ⟨b,_,rfl⟩:=hx
      rfl
     ·intro i hi h
      simp [hel] at hi
      simp at h
      omega
    ·have:=run_stringToBytes (P:=C.P) e s w cap rfl
     simp only [execOp,hy,Go.convert,Sem.run_bind,run_underlying hU,run_underlying hV,run_underlying hW,Result.andThen_ok,this,Sem.run_pure]
     simp only [Mk.cval,xcap,if_true,World.size_drew]
     rw [show s.size+(cap-s.size)=cap from by omega]
   ·cases hm
  ·cases hm
 | _=>cases hm
end Go.Ev
end
section
namespace Go.Ev
variable {C:Ctx}
theorem ERels.append {ρ:Ren}:∀ {es fs:List Ent} {ms ns:List MapEntry},ERels ρ es ms→ERels ρ fs ns→ERels ρ (es++fs) (ms++ns)
 | _,_,_,_,.nil,k=>k
 | _,_,_,_,.cons h hs,k=>.cons h (ERels.append hs k)
theorem ERels.modifyAt {ρ:Ren} {k v:V} {x y:Value} (hk:VRel ρ k x) (hv:VRel ρ v y) {es:List Ent} {ms:List MapEntry} (h:ERels ρ es ms) :
  ∀ i,ERels ρ (modifyAt k v i es) (ms.modify i fun e=>{ e with key:=x,val:=y }):=by
 induction h with
 | nil=>intro i; cases i <;> exact .nil
 | cons he hs ih=>
  intro i
  cases he with | mk h1 h2=>
  cases i with
  | zero=>exact .cons (.mk hk hv) hs
  | succ i=>exact .cons (.mk h1 h2) (ih i)
theorem ERels.erase {ρ:Ren} {es:List Ent} {ms:List MapEntry} (h:ERels ρ es ms):∀ i,ERels ρ (es.eraseIdx i) (ms.eraseIdx i):=by
 induction h with
 | nil=>intro i; exact .nil
 | cons he hs ih=>
  intro i
  cases i with
  | zero=>exact hs
  | succ i=>exact .cons he (ih i)
theorem run_setMap {P:Program} {w:World} {c:Nat} {x:Obj} (o:Obj) (h:w.heap[c]? = some x) (hx:∀ a b d,x≠.cells a b d) :
  (Go.setObj c o).run P w=.ok () { w with heap:=w.heap.setIfInBounds c o }:=by
 simp only [Go.setObj,Sem.run,h]
theorem mapUpdate_run (hC:C.Ok) {ρ:Ren} {h h':Heap} {w:World} (H:HRel ρ h w) {t:TypeId} {m k v:V} (hm:mapUpdate C h t m k v=some h') {x kx y:Value}
  (h1:VRel ρ m x) (h2:VRel ρ k kx) (h3:VRel ρ v y) (n:Nat):∃ w',(Instr.mapUpdate t x kx y).run C.P w=.ok () w'∧Evo ρ h n w ρ h' n w':=by
 unfold mapUpdate at hm
 replace hm:=of_bind hm
 obtain ⟨ke,hke,hm⟩:=hm
 obtain ⟨kt,u1,u2,u3⟩:=mapTy_rel hC hke
 split at hm
 ·rename_i b
  replace hm:=of_bind hm
  obtain ⟨c,hc,hm⟩:=hm
  replace hm:=of_bind hm
  obtain ⟨r,hr,hm⟩:=hm
  cases h1 with | @map _ cc sh ex hρ=>
  obtain ⟨hg,hsh,ms,g1,g2⟩:=H.omap hc hρ
  have hfr:=findKey_rel h2 g2 hr
  cases r with
  | none=>
   cases hm
   refine ⟨_,?_,Evo.turn H n hg hρ rfl rfl (.map (ms:=ms.toList++[⟨kx,y,c.2⟩]) hsh (g2.append (.cons (.mk h2 h3) .nil)))⟩
   simp only [Instr.mapUpdate,Sem.run_bind,run_underlying u1,Result.andThen_ok,run_getMap g1,run_checkKey u2 u3,run_findKey u2 hfr]
   rw [run_setMap _ g1 (by simp)]
   congr 3
   apply congrArg (fun l=>Obj.map l (c.2+1))
   apply Array.toList_inj.1
   simp
  | some p=>
   obtain ⟨i,v0⟩:=p
   obtain ⟨e,f1,f2,f3,f4,f5,f6⟩:=hfr
   cases hm
   have f3':ms[i]? = some e:=by simpa using f3
   refine ⟨_,?_,Evo.turn H n hg hρ rfl rfl (.map (ms:=ms.toList.modify i fun e=>{ e with key:=kx,val:=y }) hsh (g2.modifyAt h2 h3 i))⟩
   have hstay:(Instr.keyThatStays kx kx).run C.P w=.ok kx w:=by simp [Instr.keyThatStays,f6]
   simp only [Instr.mapUpdate,Sem.run_bind,run_underlying u1,Result.andThen_ok,run_getMap g1,run_checkKey u2 u3,run_findKey u2 f1,f3',Option.map_some,Option.getD_some,f4,hstay]
   rw [run_setMap _ g1 (by simp)]
   congr 3
   apply congrArg (fun l=>Obj.map l c.2)
   apply Array.toList_inj.1
   simp
 ·cases hm
theorem mapDelete_run (hC:C.Ok) {ρ:Ren} {h h':Heap} {w:World} (H:HRel ρ h w) {ats:Array TypeId} {t rt:TypeId} {m k:V} (hm:mapDelete C h t m k=some h') (h0:ats[0]? = some t) {x kx:Value}
  (h1:VRel ρ m x) (h2:VRel ρ k kx) (n:Nat):∃ w',(Builtin.delete_ ats rt #[x,kx]).run C.P w=.ok (.tuple #[]) w'∧Evo ρ h n w ρ h' n w':=by
 unfold mapDelete at hm
 replace hm:=of_bind hm
 obtain ⟨ke,hke,hm⟩:=hm
 obtain ⟨kt,u1,u2,u3⟩:=mapTy_rel hC hke
 split at hm
 ·cases hm
  cases h1
  refine ⟨w,?_,.refl n H⟩
  simp [Builtin.delete_,h0,run_underlying u1,run_checkKey u2 u3]
 ·rename_i b
  replace hm:=of_bind hm
  obtain ⟨c,hc,hm⟩:=hm
  replace hm:=of_bind hm
  obtain ⟨r,hr,hm⟩:=hm
  cases h1 with | @map _ cc sh ex hρ=>
  obtain ⟨hg,hsh,ms,g1,g2⟩:=H.omap hc hρ
  have hfr:=findKey_rel h2 g2 hr
  cases r with
  | none=>
   cases hm
   refine ⟨_,?_,Evo.turn H n hg hρ rfl rfl (.map (ms:=ms.toList) hsh g2)⟩
   simp only [Builtin.delete_,h0,List.getElem?_toArray,List.getElem?_cons_zero,List.getElem?_cons_succ,Sem.run_bind,run_underlying u1,Result.andThen_ok,run_getMap g1,run_checkKey u2 u3,run_findKey u2 hfr]
   rw [run_setMap _ g1 (by simp)]
   simp
  | some p=>
   obtain ⟨i,v0⟩:=p
   obtain ⟨e,f1,f2,f3,f4,f5,f6⟩:=hfr
   cases hm
   refine ⟨_,?_,Evo.turn H n hg hρ rfl rfl (.map (ms:=ms.toList.eraseIdx i) hsh (g2.erase i))⟩
   simp only [Builtin.delete_,h0,List.getElem?_toArray,List.getElem?_cons_zero,List.getElem?_cons_succ,Sem.run_bind,run_underlying u1,Result.andThen_ok,run_getMap g1,run_checkKey u2 u3,run_findKey u2 f1]
   rw [run_setMap _ g1 (by simp)]
   simp only [Result.andThen_ok,Sem.run_pure]
   congr 3
   apply congrArg (fun l=>Obj.map l c.2)
   apply Array.toList_inj.1
   simp
 ·cases hm
theorem lenOf_run {ρ:Ren} {v:V} {m:Nat} (h:lenOf v=some m) {x:Value} (hv:VRel ρ v x) (w:World):(Builtin.lenOf x).run C.P w=.ok m w:=by
 unfold lenOf at h
 split at h <;> cases h <;> cases hv <;> rfl
theorem copy_run (hC:C.Ok) {ρ:Ren} {h:Heap} {w:World} (H:HRel ρ h w) {ats:Array TypeId} {t rt:TypeId} {d s:V} {r:V×Heap} (hc:copy C h t d s=some r) (h0:ats[0]? = some t) {dx sx:Value}
  (h1:VRel ρ d dx) (h2:VRel ρ s sx) (n:Nat):∃ y w',(Builtin.copy_ ats rt #[dx,sx]).run C.P w=.ok y w'∧Evo ρ h n w ρ r.2 n w'∧VRel ρ r.1 y:=by
 unfold copy at hc
 replace hc:=of_bind hc
 obtain ⟨i,hi,hc⟩:=hc
 obtain ⟨_,sp⟩:=hC.spec hi
 have hU:=sp.und
 split at hc
 ·rename_i e hd
  replace hc:=of_bind hc
  obtain ⟨j,hj,hc⟩:=hc
  replace hc:=of_bind hc
  obtain ⟨a,ha,hc⟩:=hc
  obtain ⟨_,sj⟩:=hC.spec hj
  rw [hd] at hU
  have l1:=lenOf_run (C:=C) ha h2 w
  split at hc
  ·rename_i b off len cap op
   replace hc:=of_bind hc
   obtain ⟨cs,hcs,hc⟩:=hc
   have hm:(bif Nat.ble a len then a else len)=Nat.min a len:=by
    by_cases hab:a≤len
    ·rw [show Nat.ble a len=true from by simpa]; simp [Nat.min_def,hab]
    ·rw [show Nat.ble a len=false from by simpa using hab]; simp [Nat.min_def,hab]
   rw [hm] at hcs hc
   obtain ⟨ys,f1,f2,f3,f4,f5⟩:=firstCells_run (C:=C) H hcs h2
   cases h1 with | @slice _ _ _ _ c sh ex o _ hr hl ho=>
   by_cases hz:cs.size=0
   ·rw [show Nat.beq cs.size 0=true from by simpa using hz] at hc
    simp only [cond_true] at hc
    cases hc
    have e1:=f3.length
    rw [← Rope.size_eq f2,hz] at e1
    have:ys=[]:=List.eq_nil_of_length_eq_zero e1.symm
    subst this
    refine ⟨.int .i64 (Nat.min a len),w,?_,.refl n H,.s _⟩
    simp only [Builtin.copy_,h0,List.getElem?_toArray,List.getElem?_cons_zero,List.getElem?_cons_succ,Sem.run_bind,run_underlying hU,l1,sj.run_size,f1,Result.andThen_ok,Go.storeCells,Sem.run_pure,goInt]
   ·rw [show Nat.beq cs.size 0=false from by simpa using hz] at hc
    simp only [cond_false] at hc
    obtain ⟨g,hc⟩:=of_cond_none hc
    simp only [beq_false_iff] at g
    replace hc:=of_bind hc
    obtain ⟨h',hst,hc⟩:=hc
    cases hc
    have ho:=ho (by have:Nat.min a len≤len:=Nat.min_le_right _ _; omega)
    subst ho
    obtain ⟨w',s1,s2⟩:=storeCells_run (C:=C) H hst hr f2 f3 f4 n
    refine ⟨.int .i64 (Nat.min a len),w',?_,s2,.s _⟩
    simp only [Builtin.copy_,h0,List.getElem?_toArray,List.getElem?_cons_zero,List.getElem?_cons_succ,Sem.run_bind,run_underlying hU,l1,sj.run_size,f1,s1,Result.andThen_ok,Sem.run_pure,goInt]
  ·replace hc:=of_bind hc
   obtain ⟨cs,hcs,hc⟩:=hc
   cases hc
   obtain ⟨ys,f1,f2,f3,f4,f5⟩:=firstCells_run (C:=C) H hcs h2
   cases h1
   refine ⟨.int .i64 0,w,?_,.refl n H,.s _⟩
   have hm:Nat.min a 0=0:=Nat.min_eq_right (Nat.zero_le _)
   simp only [Builtin.copy_,h0,List.getElem?_toArray,List.getElem?_cons_zero,List.getElem?_cons_succ,Sem.run_bind,run_underlying hU,l1,sj.run_size,hm,f1,Result.andThen_ok,Sem.run_pure,goInt]
   rfl
  ·cases hc
 ·cases hc
end Go.Ev
end
