import Derived.Test.YtaigdhieijndgaaGreatEQ1
import Derived.Laws.StructEq
section
namespace Go.Ev
structure Ctx.Ok (C:Ctx):Prop where
 ty:∀ t i,Ev.ty C t=some i→tyOf C.P t=some i
 fn:∀ f fn,C.F.get f=some fn→C.P.funcs[f]? = some fn
 ext:∀ f,C.X.get f=some true→∃ fn,C.P.funcs[f]? = some fn∧isCompare fn=true
 names:∀ f fn,C.F.get f=some fn→(fn.name == "runtime.NumGoroutine")=false
 fields:∀ t i fs,Ev.ty C t=some i→i.desc=.struct fs→∀ f:Field,f∈fs.toList→∃ j,Ev.ty C f.type=some j
def fieldsThere (C:Ctx):Option Ty→Bool
 | some i=>match i.desc with
  | .struct fs=>fs.toList.all fun f=>(Ev.ty C f.type).isSome
  | _=>true
 | none=>true
def typesOk (C:Ctx):Bool:=(List.range C.P.types.size).all fun t=>fieldsThere C (Ev.ty C t)
def namesOk (P:Program):Bool:=P.funcs.toList.all fun fn=>!(fn.name == "runtime.NumGoroutine")
theorem Ctx.of_ok (P:Program) (ng:Nat) (hf:typesOk (Ctx.of P ng)=true) (hn:namesOk P=true):(Ctx.of P ng).Ok:=by
 refine ⟨?_,?_,?_,?_,?_⟩
 ·intro t i h
  simp only [Ev.ty,Ctx.of] at h
  rw [Tree.get_ofList] at h
  obtain ⟨x,h1,h2⟩:=of_bind h
  simp only [id] at h2
  subst h2
  simp only [List.getElem?_map,Option.map_eq_some_iff] at h1
  obtain ⟨k,h3,h4⟩:=h1
  obtain ⟨h5,h6⟩:=List.getElem?_eq_some_iff.1 h3
  simp at h6
  subst h6
  exact h4
 ·intro f fn h
  simp only [Ctx.of] at h
  rw [Tree.get_ofList] at h
  rw [Array.getElem?_toList] at h
  exact h
 ·intro f h
  simp only [Ctx.of] at h
  rw [Tree.get_ofList] at h
  simp only [List.getElem?_map,Option.map_eq_some_iff] at h
  obtain ⟨fn,h1,h2⟩:=h
  exact ⟨fn,by rw [← Array.getElem?_toList]; exact h1,h2⟩
 ·intro f fn h
  simp only [Ctx.of] at h
  rw [Tree.get_ofList] at h
  have:=List.all_eq_true.1 hn fn (List.mem_of_getElem? h)
  simpa using this
 ·intro t i fs h hd f hm
  have hlt:t<P.types.size:=by
   simp only [Ev.ty,Ctx.of] at h
   rw [Tree.get_ofList] at h
   obtain ⟨x,h1,h2⟩:=of_bind h
   have:=(List.getElem?_eq_some_iff.1 h1).1
   simpa using this
  have h1:=List.all_eq_true.1 hf t (by simpa [Ctx.of] using hlt)
  rw [h] at h1
  simp only [fieldsThere,hd,List.all_eq_true] at h1
  exact Option.isSome_iff_exists.1 (h1 f hm)
def GRel (C:Ctx) (ρ:Ren):Prop:=∀ g,g<C.ng→ρ g=some (g,0,0)
theorem GRel.mono {C:Ctx} {ρ ρ':Ren} (h:GRel C ρ) (hle:ρ.le ρ'):GRel C ρ':=fun g hg=>hle _ _ (h g hg)
theorem pure?_run {α:Type} {P:Program}:∀ {s:Sem α} {a:α},pure? P s=some a→∀ w,s.run P w=.ok a w
 | .pure _,_,h,w=>by simp [pure?] at h; subst h; rfl
 | .program k,a,h,w=>by simp only [pure?] at h; exact pure?_run h w
 | .mark _ k,a,h,w=>by simp only [pure?] at h; exact pure?_run h w
 | .load ..,_,h,_=>by simp [pure?] at h
 | .store ..,_,h,_=>by simp [pure?] at h
 | .new ..,_,h,_=>by simp [pure?] at h
 | .shape ..,_,h,_=>by simp [pure?] at h
 | .freeze ..,_,h,_=>by simp [pure?] at h
 | .frozen ..,_,h,_=>by simp [pure?] at h
 | .getObj ..,_,h,_=>by simp [pure?] at h
 | .setObj ..,_,h,_=>by simp [pure?] at h
 | .choose ..,_,h,_=>by simp [pure?] at h
 | .sys ..,_,h,_=>by simp [pure?] at h
 | .halt _,_,h,_=>by simp [pure?] at h
section
variable {C:Ctx}
structure TySpec (C:Ctx) (t:TypeId) (i:Ty) (x:TypeInfo):Prop where
 info:C.P.info? t=some x
 und:C.P.underlying t=some i.desc
 agg:i.agg=descAgg i.desc
 size:i.size=x.size
 bytes:i.bytes=x.bytes
 comparable:i.comparable=x.comparable
 methods:i.methods=x.methods.toList
 zero:i.zero=x.zero.bind ofValue
 guard:i.guard=C.P.eqGuardType C.P.depth t
 stood:i.stood=C.P.stoodInHeld t
theorem Ctx.Ok.spec (hC:C.Ok) {t:TypeId} {i:Ty} (h:Ev.ty C t=some i):∃ x,TySpec C t i x:=by
 have h:=hC.ty t i h
 unfold tyOf at h
 obtain ⟨x,h1,h⟩:=of_bind h
 obtain ⟨d,h2,h⟩:=of_bind h
 cases h
 exact ⟨x,h1,h2,rfl,rfl,rfl,rfl,rfl,rfl,rfl,rfl⟩
variable {t:TypeId} {i:Ty} {x:TypeInfo}
theorem TySpec.run_und (h:TySpec C t i x) (w:World):(underlying t).run C.P w=.ok i.desc w:=by
 simp [underlying,h.und]
theorem TySpec.run_info (h:TySpec C t i x) (w:World):(typeInfo t).run C.P w=.ok x w:=by
 simp [typeInfo,h.info]
theorem TySpec.run_size (h:TySpec C t i x) (w:World):(sizeOf t).run C.P w=.ok i.size w:=by
 simp [sizeOf,h.run_info,h.size]
theorem TySpec.run_isAgg (h:TySpec C t i x) (w:World):(isAgg t).run C.P w=.ok i.agg w:=by
 simp only [isAgg,Sem.run_bind,h.run_und,Result.andThen_ok,h.agg]
 cases i.desc <;> rfl
theorem ofCell_rel {x:Value} {v:V} (h:ofCell x=some v):v=.s x∧x.oneCell'=true:=by
 unfold ofCell at h
 cases hs:isScalar x <;> simp [hs] at h
 refine ⟨h.symm,?_⟩
 cases x <;> simp [isScalar,Value.oneCell'] at hs ⊢
theorem ofCells_rel (ρ:Ren):∀ {l:List Value} {vs:List V},ofCells l=some vs→VRels ρ vs l∧∀ x∈l,x.oneCell'=true
 | [],vs,h=>by simp [ofCells] at h; subst h; exact ⟨.nil,by simp⟩
 | x::l,vs,h=>by
  simp only [ofCells] at h
  obtain ⟨v,h1,h⟩:=of_bind h
  obtain ⟨us,h2,h⟩:=of_bind h
  cases h
  obtain ⟨e,hc⟩:=ofCell_rel h1
  obtain ⟨a,b⟩:=ofCells_rel ρ h2
  subst e
  exact ⟨.cons (.s _) a,by simpa using ⟨hc,b⟩⟩
theorem ofValue_rel (ρ:Ren) {x:Value} {v:V} (h:ofValue x=some v):VRel ρ v x∧(∀ y,v=.s (.agg y)→False):=by
 have key:∀ y:Value,ofCell y=some v→VRel ρ v y∧(∀ y,v=.s (.agg y)→False):=by
  intro y hy
  obtain ⟨e,hc⟩:=ofCell_rel hy
  subst e
  refine ⟨.s _,fun z hz=>?_⟩
  cases hz
  simp [Value.oneCell'] at hc
 cases x with
 | agg cs=>
  simp only [ofValue] at h
  obtain ⟨vs,h1,h⟩:=of_bind h
  cases h
  obtain ⟨a,b⟩:=ofCells_rel ρ h1
  obtain ⟨o1,o2,o3⟩:=Rope.ofList_ok vs
  refine ⟨?_,fun y hy=>by cases hy⟩
  have:=VRel.agg (ρ:=ρ) o1 (xs:=cs.toList) (by rw [o2]; exact a) b
  simpa using this
 | _=>exact key _ h
theorem TySpec.run_zeros (h:TySpec C t i x) {z:V} (hz:i.zero=some z) (ρ:Ren) :
  ∃ y,(∀ w,(zeroValue t).run C.P w=.ok y w)∧VRel ρ z y:=by
 rw [h.zero] at hz
 obtain ⟨y,h1,h2⟩:=of_bind hz
 obtain ⟨a,b⟩:=ofValue_rel ρ h2
 exact ⟨y,fun w=>by simp [zeroValue,h.run_info,h1],a⟩
theorem TySpec.run_zero (h:TySpec C t i x) {z:V} (hz:i.zero=some z) (ρ:Ren) (w:World) :
  ∃ y,(zeroValue t).run C.P w=.ok y w∧VRel ρ z y∧(∀ y,z=.s (.agg y)→False):=by
 rw [h.zero] at hz
 obtain ⟨y,h1,h2⟩:=of_bind hz
 obtain ⟨a,b⟩:=ofValue_rel ρ h2
 exact ⟨y,by simp [zeroValue,h.run_info,h1],a,b⟩
theorem part_run (hC:C.Ok) (hi:Ev.ty C t=some i) {ρ:Ren} {r:Rope V} {off:Nat} {v:V} (h:part i r off=some v) (hok:r.Ok) {xs:List Value}
  (hr:VRels ρ r.toList xs) (hc:∀ y∈xs,y.oneCell'=true) (w:World) :
  ∃ y,(Go.part t xs.toArray off).run C.P w=.ok y w∧VRel ρ v y∧(∀ z,v=.s (.agg z)→False):=by
 obtain ⟨x,sp⟩:=hC.spec hi
 have hlen:=hr.length
 have hsz:=Rope.size_eq hok
 unfold part at h
 cases ha:i.agg with
 | true=>
  rw [ha] at h
  simp only [cond_true] at h
  obtain ⟨h1,h2⟩:=of_cond_some h
  cases h2
  rw [ble_true_iff] at h1
  obtain ⟨e1,e2⟩:=Rope.ext_ok off i.size hok h1
  refine ⟨.agg ((xs.drop off).take i.size).toArray,?_,?_,fun z hz=>by cases hz⟩
  ·simp [Go.part,sp.run_isAgg,sp.run_size,ha,List.extract_eq_take_drop]
  ·refine .agg e1 ?_ ?_
   ·rw [e2]; exact (hr.drop off).take i.size
   ·intro y hy; exact hc y (List.mem_of_mem_drop (List.mem_of_mem_take hy))
 | false=>
  rw [ha] at h
  simp only [cond_false] at h
  rw [Rope.get_eq off hok] at h
  obtain ⟨y,h1,h2⟩:=hr.get h
  refine ⟨y,?_,h2,?_⟩
  ·simp [Go.part,sp.run_isAgg,ha,h1]
  ·intro z hz
   subst hz
   have:=hc y (List.mem_of_getElem? h1)
   cases h2
   simp [Value.oneCell'] at this
theorem HRel.cells {ρ:Ren} {h:Heap} {w:World} (H:HRel ρ h w) {b:Nat} {q:Rope V×Nat} {c sh ex:Nat} (hb:cellsOwn h b=some q) (hr:ρ b=some (c,sh,ex)) :
  h.get b=some (.cells q.1 q.2)∧∃ arr t fz pre mid post,w.heap[c]? = some (.cells arr t fz)∧q.1.Ok∧arr.toList=pre++mid++post∧pre.length=sh∧VRels ρ q.1.toList mid ∧
   (∀ x∈mid,x.oneCell'=true)∧ex*q.2≤post.length∧(∀ i,i<arr.size→¬ (fz.1≤i∧i<fz.2)):=by
 unfold cellsOwn at hb
 cases hg:h.get b with
 | none=>simp [hg] at hb
 | some o=>
  rw [hg] at hb
  cases o <;> simp at hb
  subst hb
  obtain ⟨x,h1,h2⟩:=H.at hg hr
  cases h2 with
  | cells hok pre mid post ha hp hm hc hx hz=>exact ⟨rfl,_,_,_,pre,mid,post,h1,hok,ha,hp,hm,hc,hx,hz⟩
theorem HRel.rcells {ρ:Ren} {h:Heap} {w:World} (H:HRel ρ h w) {b:Nat} {q:Rope V×Nat} {c sh ex:Nat} (hb:cellsAt h b=some q) (hr:ρ b=some (c,sh,ex)) :
  ∃ arr t fz pre mid post,w.heap[c]? = some (.cells arr t fz)∧q.1.Ok∧arr.toList=pre++mid++post∧pre.length=sh∧VRels ρ q.1.toList mid ∧
   (∀ x∈mid,x.oneCell'=true):=by
 unfold cellsAt at hb
 cases hg:h.get b with
 | none=>simp [hg] at hb
 | some o=>
  rw [hg] at hb
  cases o <;> simp at hb
  all_goals
   subst hb
   obtain ⟨x,h1,h2⟩:=H.at hg hr
  ·cases h2 with
   | cells hok pre mid post ha hp hm hc hx hz=>exact ⟨_,_,_,pre,mid,post,h1,hok,ha,hp,hm,hc⟩
  ·cases h2 with
   | ro hok pre mid post ha hp hm hc=>exact ⟨_,_,_,pre,mid,post,h1,hok,ha,hp,hm,hc⟩
theorem cell_of_row {w:World} {c:Nat} {arr:Array Value} {t:TypeId} {fz:Nat×Nat} {pre mid post:List Value} (h:w.heap[c]? = some (.cells arr t fz))
  (ha:arr.toList=pre++mid++post) {off:Nat} {y:Value} (hy:mid[off]? = some y):w.cell? ⟨c,off+pre.length,none⟩=some y:=by
 have h2:=(List.getElem?_eq_some_iff.1 hy).1
 simp only [World.cell?,h,Option.isSome_none,Bool.false_eq_true,if_false]
 rw [← Array.getElem?_toList,ha,List.append_assoc,List.getElem?_append_right (by omega),List.getElem?_append_left (by omega)]
 rw [← hy]; congr 1; omega
theorem load_run (hC:C.Ok) {ρ:Ren} {h:Heap} {w:World} (H:HRel ρ h w) {b off:Nat} {v:V} (hl:load C h t b off=some v) {c sh ex:Nat} (hr:ρ b=some (c,sh,ex)) :
  ∃ y,(loadVar t ⟨c,off+sh,none⟩).run C.P w=.ok y w∧VRel ρ v y∧(∀ z,v=.s (.agg z)→False):=by
 unfold load at hl
 obtain ⟨i,hi,hl⟩:=of_bind hl
 obtain ⟨q,hq,hp⟩:=of_bind hl
 obtain ⟨x,sp⟩:=hC.spec hi
 obtain ⟨arr,t',fz,pre,mid,post,h1,h2,h3,h4,h5,h6⟩:=H.rcells hq hr
 obtain ⟨y,p1,p2,p3⟩:=part_run hC hi hp h2 h5 h6 w
 refine ⟨y,?_,p2,p3⟩
 have hsz:=Rope.size_eq h2
 have hlen:=h5.length
 unfold part at hp
 cases ha:i.agg with
 | true=>
  rw [ha] at hp
  simp only [cond_true] at hp
  obtain ⟨g1,g2⟩:=of_cond_some hp
  rw [ble_true_iff] at g1
  simp [Go.part,sp.run_isAgg,sp.run_size,ha,List.extract_eq_take_drop] at p1
  subst p1
  have e:((mid.drop off).take i.size).length=i.size:=by simp; omega
  have:=run_loadCells_list (P:=C.P) (w:=w) ⟨c,off+sh,none⟩ ((mid.drop off).take i.size) (by
   intro j y hj
   rw [List.getElem?_take] at hj
   split at hj
   ·rw [List.getElem?_drop] at hj
    have:=cell_of_row h1 h3 hj
    rw [addr_add,← h4,← this]
    congr 2; omega
   ·cases hj)
  rw [e] at this
  simp [loadVar,sp.run_isAgg,sp.run_size,ha,this]
 | false=>
  rw [ha] at hp
  simp only [cond_false] at hp
  rw [Rope.get_eq off h2] at hp
  obtain ⟨y',k1,k2⟩:=h5.get hp
  simp [Go.part,sp.run_isAgg,ha,k1] at p1
  subst p1
  have:=cell_of_row h1 h3 k1
  rw [h4] at this
  simp [loadVar,sp.run_isAgg,ha,this]
theorem splice_step (cur:List Value) (k:Nat) (v:Value) (rest:List Value) (h:k<cur.length) :
  (cur.set k v).take (k+1)++rest++(cur.set k v).drop (k+1+rest.length)=cur.take k++(v::rest)++cur.drop (k+(rest.length+1)):=by
 rw [List.set_eq_take_append_cons_drop,if_pos h]
 have e:(cur.take k).length=k:=by simp; omega
 rw [List.take_append,List.drop_append,e]
 rw [List.take_of_length_le (show (cur.take k).length≤k+1 by omega),List.drop_eq_nil_of_le (show (cur.take k).length≤k+1+rest.length by omega)]
 rw [show k+1-k=1 from by omega,show k+1+rest.length-k=rest.length+1 from by omega]
 simp only [List.take_succ_cons,List.take_zero,List.nil_append,List.drop_succ_cons,List.drop_drop]
 simp [show k+1+rest.length=k+(rest.length+1) from by omega]
theorem run_storeCells_gen {P:Program} (g o:Nat) (t:TypeId) (fz:Nat×Nat):∀ (vs:List Value) (i:Nat) (cur:Array Value) (w:World),w.heap[g]? = some (.cells cur t fz) →
  o+i+vs.length≤cur.size→(∀ v∈vs,v.oneCell'=true)→(∀ i,i<cur.size→¬ (fz.1≤i∧i<fz.2)) →
  (Go.storeCells ⟨g,o,none⟩ vs i).run P w=.ok () { w with heap:=w.heap.setIfInBounds g (.cells (cur.toList.take (o+i)++vs++cur.toList.drop (o+i+vs.length)).toArray t fz) }
 | [],i,cur,w,hg,hl,_,_=>by
  have hlt:=(Array.getElem?_eq_some_iff.1 hg).1
  have hv:=(Array.getElem?_eq_some_iff.1 hg).2
  simp only [Go.storeCells,List.append_nil,List.length_nil,Nat.add_zero,List.take_append_drop,Array.toArray_toList,Sem.run_pure]
  congr 1
  have:w.heap.setIfInBounds g (Obj.cells cur t fz)=w.heap:=by
   apply Array.ext_getElem?
   intro k
   by_cases e:g=k
   ·subst e; rw [hg]; simp [hlt]
   ·rw [Array.getElem?_setIfInBounds_ne e]
  rw [this]
 | v::rest,i,cur,w,hg,hl,h1,hz=>by
  have hlt:=(Array.getElem?_eq_some_iff.1 hg).1
  simp only [List.length_cons] at hl
  have hi:o+i<cur.size:=by omega
  have hcell:w.cell? ⟨g,o+i,none⟩=some cur[o+i]:=by simp [World.cell?,hg,hi]
  have hfro:w.frozen? ⟨g,o+i,none⟩=false:=by
   have:=hz (o+i) hi
   simp [World.frozen?,hg]; omega
  have hset:w.setCell ⟨g,o+i,none⟩ v={ w with heap:=w.heap.setIfInBounds g (.cells (cur.setIfInBounds (o+i) v) t fz) }:=by
   simp only [World.setCell]
   congr 1
   apply Array.ext_getElem?
   intro k
   rw [Array.getElem?_modify]
   by_cases e:g=k
   ·subst e; rw [if_pos rfl,hg]; simp [hlt]
   ·rw [Array.getElem?_setIfInBounds_ne e]; simp [e]
  have hst:(Go.store ((⟨g,o,none⟩:Addr).add i) v).run P w=.ok () { w with heap:=w.heap.setIfInBounds g (.cells (cur.setIfInBounds (o+i) v) t fz) }:=by
   rw [addr_add,run_store P w _ v _ (h1 v (by simp)),hcell]
   simp [hfro,hset]
  have ih:=run_storeCells_gen (P:=P) g o t fz rest (i+1) (cur.setIfInBounds (o+i) v) { w with heap:=w.heap.setIfInBounds g (.cells (cur.setIfInBounds (o+i) v) t fz) }
   (by simp [hlt]) (by simp; omega) (fun x hx=>h1 x (by simp [hx])) (by simpa using hz)
  simp only [Go.storeCells,Sem.run_bind,hst,Result.andThen_ok]
  rw [ih]
  simp only [Array.toList_setIfInBounds,Array.setIfInBounds_setIfInBounds,show o+(i+1)=o+i+1 from by omega,List.length_cons]
  rw [splice_step cur.toList (o+i) v rest (by simpa using hi)]
end
end Go.Ev
end
section
namespace Go.Ev
variable {C:Ctx}
theorem splice_mid (pre mid post ys:List Value) (off:Nat) (h:off+ys.length≤mid.length) :
  (pre++mid++post).take (off+pre.length)++ys++(pre++mid++post).drop (off+pre.length+ys.length)=pre++(mid.take off++ys++mid.drop (off+ys.length))++post:=by
 rw [List.append_assoc pre,List.take_append,List.drop_append,List.take_of_length_le (show pre.length≤off+pre.length by omega),
  List.drop_eq_nil_of_le (show pre.length≤off+pre.length+ys.length by omega)]
 rw [show off+pre.length-pre.length=off from by omega,show off+pre.length+ys.length-pre.length=off+ys.length from by omega]
 rw [List.take_append_of_le_length (by omega),List.drop_append_of_le_length (by omega)]
 simp
theorem storeCells_run {ρ:Ren} {h h':Heap} {w:World} (H:HRel ρ h w) {b off:Nat} {new:Rope V} (hs:storeCells h b off new=some h') {c sh ex:Nat}
  (hr:ρ b=some (c,sh,ex)) (hok:new.Ok) {ys:List Value} (hv:VRels ρ new.toList ys) (hc:∀ y∈ys,y.oneCell'=true) (n:Nat) :
  ∃ w',(Go.storeCells ⟨c,off+sh,none⟩ ys).run C.P w=.ok () w'∧Evo ρ h n w ρ h' n w':=by
 unfold storeCells at hs
 obtain ⟨q,hq,hs⟩:=of_bind hs
 obtain ⟨h1,h2⟩:=of_cond_some hs
 cases h2
 rw [ble_true_iff] at h1
 obtain ⟨hg,arr,t',fz,pre,mid,post,g1,g2,g3,g4,g5,g6,g7,g8⟩:=H.cells hq hr
 have e1:=Rope.size_eq g2
 have e2:=g5.length
 have e3:=Rope.size_eq hok
 have e4:=hv.length
 have e5:arr.size=pre.length+mid.length+post.length:=by rw [← Array.length_toList,g3]; simp; omega
 obtain ⟨p1,p2,p3⟩:=Rope.put_ok off g2 hok h1
 have hrun:=run_storeCells_gen (P:=C.P) c (off+sh) t' fz ys 0 arr w g1 (by omega) hc g8
 refine ⟨_,hrun,Evo.turn H n hg hr rfl rfl ?_⟩
 have e6:arr.toList.take (off+sh)++ys++arr.toList.drop (off+sh+ys.length)=pre++(mid.take off++ys++mid.drop (off+ys.length))++post:=by
  rw [g3,← g4]; exact splice_mid pre mid post ys off (by omega)
 simp only [Nat.add_zero]
 rw [e6]
 refine .cells p1 pre (mid.take off++ys++mid.drop (off+ys.length)) post (by simp) g4 ?_ ?_ g7 ?_
 ·rw [p3,e3,e4]
  exact ((g5.take off).append hv).append (g5.drop _)
 ·intro y hy
  simp only [List.mem_append] at hy
  rcases hy with (hy | hy) | hy
  ·exact g6 y (List.mem_of_mem_take hy)
  ·exact hc y hy
  ·exact g6 y (List.mem_of_mem_drop hy)
 ·intro i hi
  apply g8
  simp at hi
  omega
theorem store_run (hC:C.Ok) {ρ:Ren} {h h':Heap} {w:World} (H:HRel ρ h w) {t:TypeId} {b off:Nat} {v:V} (hs:store C h t b off v=some h') {c sh ex:Nat}
  (hr:ρ b=some (c,sh,ex)) {x:Value} (hv:VRel ρ v x) (n:Nat) :
  ∃ w',(Go.storeVar t ⟨c,off+sh,none⟩ x).run C.P w=.ok () w'∧Evo ρ h n w ρ h' n w':=by
 unfold store at hs
 obtain ⟨i,hi,hs⟩:=of_bind hs
 obtain ⟨cs,hcs,hs⟩:=of_bind hs
 obtain ⟨h1,hs⟩:=of_cond_some hs
 rw [beq_true_iff] at h1
 obtain ⟨_,sp⟩:=hC.spec hi
 obtain ⟨a1,a2,a3⟩:=hv.cells hcs
 obtain ⟨w',h2,h3⟩:=storeCells_run (C:=C) H hs hr a1 a2 a3 n
 refine ⟨w',?_,h3⟩
 have e:x.cells.size=i.size:=by
  have:=a2.length
  rw [← h1,Rope.size_eq a1,this]; simp
 simp [storeVar,sp.run_size,e,h2]
theorem fold_cells (off:Nat):∀ (vs:List Value) (j:Nat) (cells:Array Value),off+j+vs.length≤cells.size →
  ((vs.zipIdx j).foldl (fun cs (x:Value×Nat)=>cs.setIfInBounds (off+x.2) x.1) cells)=(cells.toList.take (off+j)++vs++cells.toList.drop (off+j+vs.length)).toArray
 | [],j,cells,_=>by simp
 | v::vs,j,cells,h=>by
  simp only [List.length_cons] at h
  simp only [List.zipIdx_cons,List.foldl_cons]
  rw [fold_cells off vs (j+1) _ (by simp; omega)]
  simp only [Array.toList_setIfInBounds,show off+(j+1)=off+j+1 from by omega,List.length_cons]
  rw [splice_step cells.toList (off+j) v vs (by simp; omega)]
theorem fold_cells_array (off:Nat) (vs:Array Value) (cells:Array Value) (h:off+vs.size≤cells.size) :
  (vs.zipIdx.foldl (fun cs (x:Value×Nat)=>cs.setIfInBounds (off+x.2) x.1) cells)=(cells.toList.take off++vs.toList++cells.toList.drop (off+vs.size)).toArray:=by
 rw [← Array.foldl_toList,Array.toList_zipIdx,fold_cells off vs.toList 0 cells (by simpa using h)]
 simp
inductive NRels (ρ:Ren):List (Nat×V)→List (Nat×Value)→Prop
 | nil:NRels ρ [] []
 | cons {i:Nat} {v:V} {x:Value} {vs:List (Nat×V)} {xs:List (Nat×Value)} (h:VRel ρ v x) (hs:NRels ρ vs xs):NRels ρ ((i,v)::vs) ((i,x)::xs)
theorem fill_rel {ρ:Ren} (place:Nat→Option (Nat×Nat)) (fl:Rope V→List (Nat×V)→Option (Rope V))
  (h0:∀ r r',fl r []=some r'→r'=r)
  (h1:∀ r r' i v rest,fl r ((i,v)::rest)=some r'→∃ off n cs,place i=some (off,n)∧v.cells=some cs∧cs.size=n∧off+n≤r.size∧fl (r.put off cs) rest=some r') :
  ∀ {parts:List (Nat×V)} {ps:List (Nat×Value)} {r r':Rope V} {xs:List Value},NRels ρ parts ps→fl r parts=some r'→r.Ok→VRels ρ r.toList xs→(∀ x∈xs,x.oneCell'=true) →
   ∃ ys:List Value,Instr.fill place xs.toArray ps=some ys.toArray∧r'.Ok∧VRels ρ r'.toList ys∧(∀ y∈ys,y.oneCell'=true)
 | _,_,r,r',xs,.nil,hf,hok,hr,hc=>by
  obtain rfl:=h0 _ _ hf
  exact ⟨xs,rfl,hok,hr,hc⟩
 | _,_,r,r',xs,.cons (i:=i) (v:=v) (x:=x) (vs:=vs) (xs:=ps) h hs,hf,hok,hr,hc=>by
  obtain ⟨off,n,cs,g1,g2,g3,g4,g5⟩:=h1 _ _ _ _ _ hf
  obtain ⟨a1,a2,a3⟩:=h.cells g2
  obtain ⟨p1,p2,p3⟩:=Rope.put_ok off hok a1 (by omega)
  have e1:=Rope.size_eq a1
  have e2:=a2.length
  have e3:=Rope.size_eq hok
  have e4:=hr.length
  have e5:x.cells.size=n:=by rw [← Array.length_toList]; omega
  have hnew:VRels ρ (r.put off cs).toList (xs.take off++x.cells.toList++xs.drop (off+n)):=by
   rw [p3,g3]; exact ((hr.take off).append a2).append (hr.drop _)
  obtain ⟨ys,k1,k2,k3,k4⟩:=fill_rel place fl h0 h1 (r:=r.put off cs) hs g5 p1 hnew (by
   intro y hy
   simp only [List.mem_append] at hy
   rcases hy with (hy | hy) | hy
   ·exact hc y (List.mem_of_mem_take hy)
   ·exact a3 y hy
   ·exact hc y (List.mem_of_mem_drop hy))
  refine ⟨ys,?_,k2,k3,k4⟩
  have hno:¬ ((decide (x.cells.size≠n) || decide (off+x.cells.size > xs.toArray.size))=true):=by simp; omega
  simp only [Instr.fill,g1]
  rw [if_neg hno,fold_cells_array off x.cells xs.toArray (by simp; omega),e5]
  exact k1
theorem run_places (hC:C.Ok) (fs:Array Field) (w:World) (hall:∀ f:Field,f∈fs.toList→∃ i,ty C f.type=some i) :
  ∃ pl:Array (Nat×Nat),(fs.mapM (m:=Sem) fun (f:Field)=>do pure (f.offset,← Go.sizeOf f.type)).run C.P w=.ok pl w ∧
   ∀ (k:Nat) (f:Field) (i:Ty),fs[k]? = some f→ty C f.type=some i→pl[k]? = some (f.offset,i.size):=by
 have key:∀ l:List Field,(∀ f:Field,f∈l→∃ i,ty C f.type=some i)→∃ pl:List (Nat×Nat),(l.mapM (m:=Sem) fun (f:Field)=>do pure (f.offset,← Go.sizeOf f.type)).run C.P w=.ok pl w ∧
   ∀ (k:Nat) (f:Field) (i:Ty),l[k]? = some f→ty C f.type=some i→pl[k]? = some (f.offset,i.size):=by
  intro l
  induction l with
  | nil=>intro _; exact ⟨[],by simp,by simp⟩
  | cons f l ih=>
   intro hl
   obtain ⟨i,hi⟩:=hl f (by simp)
   obtain ⟨pl,p1,p2⟩:=ih (fun g hg=>hl g (by simp [hg]))
   obtain ⟨_,sp⟩:=hC.spec hi
   refine ⟨(f.offset,i.size)::pl,by simp only [List.mapM_cons,Sem.run_bind,sp.run_size,Result.andThen_ok,Sem.run_pure,p1],?_⟩
   intro k g j hk hj
   cases k with
   | zero=>simp at hk; subst hk; rw [hi] at hj; cases hj; simp
   | succ k=>simp at hk ⊢; exact p2 k g j hk hj
 obtain ⟨pl,p1,p2⟩:=key fs.toList hall
 refine ⟨pl.toArray,?_,?_⟩
 ·rw [← Array.toArray_toList (xs:=fs),List.mapM_toArray]
  simp only [Sem.run_map,p1,Result.andThen_ok]
 ·intro k f i hk hi
  simpa using p2 k f i (by simpa using hk) hi
end Go.Ev
end
section
namespace Go.Ev
variable {C:Ctx}
theorem kindEq_iff {a b:IntKind}:kindEq a b=true↔a=b:=by cases a <;> cases b <;> simp [kindEq]
theorem intEq_eq (a b:Int):intEq a b=(a == b):=by
 have h1:∀ m n:Nat,Nat.beq m n=(m == n):=fun m n=>by rw [Bool.eq_iff_iff]; simp
 cases a <;> cases b <;> simp only [intEq,h1]
 ·rw [Bool.eq_iff_iff]; simp; omega
 ·symm; rw [beq_eq_false_iff_ne]; intro h; cases h
 ·symm; rw [beq_eq_false_iff_ne]; intro h; cases h
 ·rw [Bool.eq_iff_iff]; simp
theorem intLt_eq (a b:Int):intLt a b=decide (a<b):=by
 cases a with
 | ofNat a=>cases b with
  | ofNat b=>rw [Bool.eq_iff_iff]; simp only [intLt,blt_true_iff,decide_eq_true_eq,Int.ofNat_eq_natCast]; omega
  | negSucc b=>rw [Bool.eq_iff_iff]; simp only [intLt,decide_eq_true_eq,Int.ofNat_eq_natCast,Bool.false_eq_true,false_iff]; omega
 | negSucc a=>cases b with
  | ofNat b=>rw [Bool.eq_iff_iff]; simp only [intLt,decide_eq_true_eq,Int.ofNat_eq_natCast,true_iff]; omega
  | negSucc b=>rw [Bool.eq_iff_iff]; simp only [intLt,blt_true_iff,decide_eq_true_eq]; omega
theorem p2_eq (k:IntKind):((p2 k:Nat):Int)=2 ^ k.bits:=by cases k <;> rfl
theorem p2_half (k:IntKind):((p2 k / 2:Nat):Int)=2 ^ (k.bits-1):=by cases k <;> rfl
theorem p2_pos (k:IntKind):0<p2 k:=by cases k <;> decide
theorem wrapF_eq (k:IntKind) (n:Int):wrapF k n=k.wrap n:=by
 have h0:0≤n % (2 ^ k.bits:Int):=by
  rw [← p2_eq]; exact Int.emod_nonneg _ (by have:=p2_pos k; omega)
 unfold wrapF IntKind.wrap
 simp only [Int.ofNat_eq_natCast]
 rw [p2_eq]
 have e:n.emod (2 ^ k.bits)=n % (2 ^ k.bits:Int):=rfl
 rw [e]
 generalize n % (2 ^ k.bits:Int)=m at *
 cases hs:k.signed with
 | false=>simp
 | true=>
  simp only [cond_true,Bool.true_and,decide_eq_true_eq]
  rw [← p2_half]
  by_cases h:(p2 k / 2:Nat)≤m.toNat
  ·rw [show Nat.ble (p2 k / 2) m.toNat=true from by simpa]
   simp only [cond_true]
   rw [if_pos (by omega)]
  ·rw [show Nat.ble (p2 k / 2) m.toNat=false from by simpa using h]
   simp only [cond_false]
   rw [if_neg (by omega)]
theorem fastBin_run {P:Program} {op:BinOp} {k:IntKind} {a b:Int} {v:Value} (t:TypeId) (h:fastBin op k a b=some v) (w:World) :
  (binOp op t (.int k a) (.int k b)).run P w=.ok v w:=by
 cases op <;> simp only [fastBin,Option.some.injEq,reduceCtorEq] at h <;> subst h <;>
  simp [binOp,Op.intArith,Op.intCmp,wrapF_eq,intEq_eq,intLt_eq]
 ·rw [bne]
 all_goals (rw [← decide_not]; congr 1; simp)
theorem scalarBin_run {op:BinOp} {t:TypeId} {a b v:Value} (h:scalarBin C op t a b=some v) (w:World):(binOp op t a b).run C.P w=.ok v w:=by
 unfold scalarBin at h
 split at h
 ·rename_i k x k' y
  cases hk:kindEq k k' with
  | false=>rw [hk] at h; exact pure?_run (by simpa using h) w
  | true=>
   rw [hk] at h
   rw [kindEq_iff] at hk
   subst hk
   simp only [cond_true] at h
   split at h
   ·rename_i v' hv
    cases h
    exact fastBin_run t hv w
   ·exact pure?_run h w
 ·exact pure?_run h w
def eqElemsS (d:Nat) (elem:TypeId) (n:Nat) (xs ys:Array Value):List Nat→Sem Bool
 | []=>pure true
 | i::l=>do
  let a ← Go.part elem xs (i*n)
  let b ← Go.part elem ys (i*n)
  let r ← Op.equalIn d elem a b
  if (!r)=true then pure false else eqElemsS d elem n xs ys l
theorem run_equalIn_array {P:Program} (w:World) (d:Nat) (t elem:TypeId) (len n:Nat) (xs ys:Array Value) (ht:P.underlying t=some (.array len elem))
  (hn:∀ w,(Go.sizeOf elem).run P w=.ok n w) :
  (Op.equalIn (d+1) t (.agg xs) (.agg ys)).run P w=(eqElemsS d elem n xs ys (List.range' 0 len)).run P w:=by
 simp only [Op.equalIn,Sem.run_bind,run_underlying ht,Result.andThen_ok,hn]
 rw [Std.Legacy.Range.forIn_eq_forIn_range']
 simp only [Std.Legacy.Range.size,Nat.sub_zero,Nat.add_sub_cancel,Nat.div_one]
 generalize List.range' 0 len=l
 clear ht
 induction l generalizing w with
 | nil=>simp [eqElemsS]
 | cons i l ih=>
  simp only [List.forIn_cons,eqElemsS,Sem.run_bind,Sem.run_ite]
  generalize (Go.part elem xs (i*n)).run P w=r1
  cases r1 with
  | ok a w1=>
   simp only [Result.andThen_ok]
   generalize (Go.part elem ys (i*n)).run P w1=r2
   cases r2 with
   | ok b w2=>
    simp only [Result.andThen_ok]
    generalize (Op.equalIn d elem a b).run P w2=r3
    cases r3 with
    | ok r w3=>
     cases r
     ·simp only [Result.andThen_ok,Bool.not_false,if_true,Sem.run_pure]
     ·simp only [Result.andThen_ok,Bool.not_true,Bool.false_eq_true,if_false,Sem.run_pure]
      exact ih w3
    | halt x w3=>simp [Result.andThen]
   | halt x w2=>simp [Result.andThen]
  | halt x w1=>simp [Result.andThen]
theorem eqFields_run (hC:C.Ok) {ρ:Ren} {d:Nat} {eq:TypeId→V→V→Option Bool}
  (ih:∀ t u v b x y,eq t u v=some b→VRel ρ u x→VRel ρ v y→∀ w,(Op.equalIn d t x y).run C.P w=.ok b w)
  {rx ry:Rope V} {xs ys:List Value} (ox:rx.Ok) (oy:ry.Ok) (hx:VRels ρ rx.toList xs) (hy:VRels ρ ry.toList ys)
  (cx:∀ x∈xs,x.oneCell'=true) (cy:∀ x∈ys,x.oneCell'=true) (w:World) :
  ∀ {fs:List Field} {b:Bool},eqFields C eq fs rx ry=some b→(Op.eqFields d xs.toArray ys.toArray fs).run C.P w=.ok b w
 | [],b,h=>by simp [eqFields] at h; subst h; simp [Op.eqFields]
 | f::fs,b,h=>by
  simp only [eqFields] at h
  simp only [Op.eqFields]
  by_cases hn:f.name="_"
  ·rw [show (f.name == "_")=true from by simpa using hn] at h
   rw [if_neg (by simpa using hn)]
   exact eqFields_run hC ih ox oy hx hy cx cy w (by simpa using h)
  ·rw [show (f.name == "_")=false from by simpa using hn] at h
   simp only [cond_false] at h
   rw [if_pos (by simpa using hn)]
   obtain ⟨j,hj,h⟩:=of_bind h
   obtain ⟨u,hu,h⟩:=of_bind h
   obtain ⟨v,hv,h⟩:=of_bind h
   obtain ⟨c,hc,h⟩:=of_bind h
   obtain ⟨x,a1,a2,_⟩:=part_run hC hj hu ox hx cx w
   obtain ⟨y,b1,b2,_⟩:=part_run hC hj hv oy hy cy w
   have e:=ih _ _ _ _ _ _ hc a2 b2 w
   simp only [Sem.run_bind,a1,b1,e,Result.andThen_ok,Sem.run_ite]
   cases c with
   | true=>
    simp only [cond_true] at h
    simp only [Bool.not_true,Bool.false_eq_true,if_false]
    exact eqFields_run hC ih ox oy hx hy cx cy w h
   | false=>simp at h; subst h; simp
theorem eqElems_run (hC:C.Ok) {ρ:Ren} {d:Nat} {eq:TypeId→V→V→Option Bool}
  (ih:∀ t u v b x y,eq t u v=some b→VRel ρ u x→VRel ρ v y→∀ w,(Op.equalIn d t x y).run C.P w=.ok b w)
  {rx ry:Rope V} {xs ys:List Value} (ox:rx.Ok) (oy:ry.Ok) (hx:VRels ρ rx.toList xs) (hy:VRels ρ ry.toList ys)
  (cx:∀ x∈xs,x.oneCell'=true) (cy:∀ x∈ys,x.oneCell'=true) {e:TypeId} {j:Ty} (hj:ty C e=some j) (w:World) :
  ∀ (n k:Nat) {b:Bool},eqElems eq e j n k rx ry=some b→(eqElemsS d e j.size xs.toArray ys.toArray (List.range' k n)).run C.P w=.ok b w
 | 0,k,b,h=>by simp [eqElems] at h; subst h; simp [eqElemsS]
 | n+1,k,b,h=>by
  simp only [eqElems] at h
  rw [List.range'_succ]
  simp only [eqElemsS]
  obtain ⟨u,hu,h⟩:=of_bind h
  obtain ⟨v,hv,h⟩:=of_bind h
  obtain ⟨c,hc,h⟩:=of_bind h
  obtain ⟨x,a1,a2,_⟩:=part_run hC hj hu ox hx cx w
  obtain ⟨y,b1,b2,_⟩:=part_run hC hj hv oy hy cy w
  have e:=ih _ _ _ _ _ _ hc a2 b2 w
  simp only [Sem.run_bind,a1,b1,e,Result.andThen_ok,Sem.run_ite]
  cases c with
  | true=>
   simp only [cond_true] at h
   simp only [Bool.not_true,Bool.false_eq_true,if_false]
   exact eqElems_run hC ih ox oy hx hy cx cy hj w n (k+1) h
  | false=>simp at h; subst h; simp
theorem eqIn_run (hC:C.Ok) {ρ:Ren}:∀ (d:Nat) (t:TypeId) (u v:V) (b:Bool) (x y:Value),eqIn C d t u v=some b→VRel ρ u x→VRel ρ v y →
  ∀ w,(Op.equalIn d t x y).run C.P w=.ok b w
 | 0,_,_,_,_,_,_,h,_,_=>by simp [eqIn] at h
 | d+1,t,u,v,b,x,y,h,hu,hv=>by
  intro w
  simp only [eqIn] at h
  replace h:=of_bind h
  obtain ⟨i,hi,h⟩:=h
  obtain ⟨info,sp⟩:=hC.spec hi
  have ih:=eqIn_run hC (ρ:=ρ) d
  split at h
  ·rename_i fs xs ys hd
   cases hst:i.stood with
   | true=>rw [hst] at h; simp at h
   | false=>
    rw [hst] at h
    simp only [cond_false] at h
    cases hu with | agg ox hx cx=>
    cases hv with | agg oy hy cy=>
    have hu:=sp.und
    rw [hd] at hu
    have hf:C.P.fieldsOf t=fs:=by simp [Program.fieldsOf,hu]
    rw [run_equalIn_struct (P:=C.P) w d t _ _ (by rw [hf]; exact hu) (by rw [← sp.stood]; exact hst),hf]
    exact eqFields_run hC ih ox oy hx hy cx cy w h
  ·rename_i len e xs ys hd
   obtain ⟨j,hj,h⟩:=of_bind h
   obtain ⟨_,sj⟩:=hC.spec hj
   cases hu with | agg ox hx cx=>
   cases hv with | agg oy hy cy=>
   have hu:=sp.und
   rw [hd] at hu
   rw [run_equalIn_array w d t e len j.size _ _ hu (fun w=>sj.run_size w)]
   exact eqElems_run hC ih ox oy hx hy cx cy hj w len 0 h
  all_goals (try (rename_i hd; cases h; cases hu; cases hv; have hU:=sp.und; rw [hd] at hU; simp [Op.equalIn,run_underlying hU]; done))
  ·rename_i tx vx ty' vy hd
   cases hu with | iface hu=>
   cases hv with | iface hv=>
   have hU:=sp.und
   rw [hd] at hU
   simp only [Op.equalIn,Sem.run_bind,run_underlying hU,Result.andThen_ok]
   by_cases e:tx=ty'
   ·subst e
    rw [show Nat.beq tx tx=true from by simp] at h
    simp only [cond_true] at h
    obtain ⟨j,hj,h⟩:=of_bind h
    obtain ⟨h1,h⟩:=of_cond_some h
    obtain ⟨xj,sj⟩:=hC.spec hj
    have:=ih _ _ _ _ _ _ h hu hv w
    simp [sj.run_info,← sj.comparable,h1,this]
   ·rw [show Nat.beq tx ty'=false from by simpa using e] at h
    simp at h
    subst h
    simp [e]
  ·rename_i k k' a k'' b' hd
   obtain ⟨h1,h⟩:=of_cond_some h
   cases h
   rw [kindEq_iff] at h1
   subst h1
   cases hu; cases hv
   have hU:=sp.und
   rw [hd] at hU
   rw [run_equalIn_int (P:=C.P) w d t _ _ _ _ hU,intEq_eq]
  ·cases hu; cases hv
   exact pure?_run h w
  ·cases h
def isBig:Value→Bool
 | .pointer (some _) | .slice (some _) _ _ | .map (some _) | .func .. | .iface .. | .agg _ | .tuple _=>true
 | _=>false
theorem VRel.big {ρ:Ren} {v:V} {x:Value} (h:VRel ρ v x) (hv:∀ y,v=.s y→False):isBig x=true:=by
 cases h <;> first | rfl | exact (hv _ rfl).elim
theorem binOp_eql {t:TypeId} {a b:Value} (h:isBig a=true∨isBig b=true):Go.binOp .eql t a b=(do pure (.bool (← Op.equal t a b)):Sem Value):=by
 cases a <;> cases b <;> first | rfl | (simp [isBig] at h)
theorem binOp_neq {t:TypeId} {a b:Value} (h:isBig a=true∨isBig b=true):Go.binOp .neq t a b=(do pure (.bool (!(← Op.equal t a b))):Sem Value):=by
 cases a <;> cases b <;> first | rfl | (simp [isBig] at h)
theorem guard_const {P:Program} {op:BinOp} {t:TypeId} {x y:Operand} (h:(isConst x || isConst y)=true) (w:World) :
  (eqGuard op t x y .nilIface .nilIface).run P w=.ok () w:=by
 cases x <;> cases y <;> first | (simp [isConst] at h; done) | (cases op <;> simp [eqGuard])
theorem guard_other {P:Program} {op:BinOp} {t:TypeId} {x y:Operand} {a b:Value} (h1:¬ (a=.nilIface∧b=.nilIface)) (h2:¬ ((∃ c,a=.agg c)∧∃ c,b=.agg c)) (w:World) :
  (eqGuard op t x y a b).run P w=.ok () w:=by
 cases a <;> cases b <;> first
  | (simp at h2; done)
  | (simp at h1; done)
  | (cases op <;> simp [eqGuard])
theorem binop_run (hC:C.Ok) {ρ:Ren} {op:BinOp} {t:TypeId} {x y:Operand} {u v r:V} (h:binop C op t (isConst x || isConst y) u v=some r) {a b:Value}
  (ha:VRel ρ u a) (hb:VRel ρ v b) (w:World) :
  ∃ z,(do eqGuard op t x y a b; Go.binOp op t a b:Sem Value).run C.P w=.ok z w∧VRel ρ r z:=by
 have hq:(isBig a=true∨isBig b=true)→(eqGuard op t x y a b).run C.P w=.ok () w→eqOp op (eqIn C 10000 t u v)=some r →
   ∃ z,(do eqGuard op t x y a b; Go.binOp op t a b:Sem Value).run C.P w=.ok z w∧VRel ρ r z:=by
  intro hbig hg he
  cases op <;> simp only [eqOp,reduceCtorEq] at he
  ·replace he:=of_bind he
   obtain ⟨bb,h1,he⟩:=he
   cases he
   have:=eqIn_run hC 10000 t u v bb a b h1 ha hb w
   refine ⟨.bool bb,?_,.s _⟩
   simp only [Sem.run_bind,hg,Result.andThen_ok,binOp_eql hbig,Op.equal,Op.maxDepth,this,Sem.run_pure]
  ·replace he:=of_bind he
   obtain ⟨bb,h1,he⟩:=he
   cases he
   have:=eqIn_run hC 10000 t u v bb a b h1 ha hb w
   refine ⟨.bool (!bb),?_,.s _⟩
   simp only [Sem.run_bind,hg,Result.andThen_ok,binOp_neq hbig,Op.equal,Op.maxDepth,this,Sem.run_pure]
 unfold binop at h
 split at h
 ·cases ha; cases hb
  obtain ⟨h1,h⟩:=of_cond_some h
  replace h:=of_bind h
  obtain ⟨z,hz,h⟩:=h
  cases h
  refine ⟨z,?_,.s _⟩
  have hg:(eqGuard op t x y a b).run C.P w=.ok () w:=by
   cases hn:bothNil a b with
   | true=>
    rw [hn] at h1
    have:a=.nilIface∧b=.nilIface:=by cases a <;> cases b <;> simp [bothNil] at hn <;> simp
    obtain ⟨rfl,rfl⟩:=this
    exact guard_const (by simpa using h1) w
   | false=>
    rw [hn] at h1
    refine guard_other ?_ ?_ w
    ·rintro ⟨rfl,rfl⟩; simp [bothNil] at hn
    ·rintro ⟨⟨c,rfl⟩,_⟩; simp [flatV] at h1
  simp only [Sem.run_bind,hg,Result.andThen_ok]
  exact scalarBin_run hz w
 ·replace h:=of_bind h
  obtain ⟨i,hi,h⟩:=h
  obtain ⟨h1,h⟩:=of_cond_none h
  obtain ⟨_,sp⟩:=hC.spec hi
  refine hq (.inl (ha.big (by rintro _ ⟨⟩))) ?_ h
  cases ha with | agg _ _ _=>
  cases hb with | agg _ _ _=>
  exact run_eqGuard_agg w op t x y _ _ (by rw [← sp.guard]; exact h1)
 ·cases h
 ·cases h
 ·rename_i n1 n2 n3 n4
  have hbig:isBig a=true∨isBig b=true:=by
   by_cases e:∃ y,u=.s y
   ·obtain ⟨y,rfl⟩:=e
    exact .inr (hb.big (fun z hz=>n3 _ _ rfl hz))
   ·exact .inl (ha.big (fun z hz=>e ⟨z,hz⟩))
  refine hq hbig (guard_other ?_ ?_ w) h
  ·rintro ⟨rfl,rfl⟩; simp [isBig] at hbig
  ·rintro ⟨⟨c,rfl⟩,c',rfl⟩
   cases ha with
   | agg _ _ _=>exact n1 _ rfl
   | s _=>
    cases hb with
    | agg _ _ _=>exact n2 _ rfl
    | s _=>exact n3 _ _ rfl rfl
end Go.Ev
end
