import Derived.Test.YtaigdhieijndgaaGreatEQ0
import Derived.OrdersIn
import Derived.RangeFuncLeaves
import Derived.Laws.Sem
import Derived.Laws.World
import Derived.Laws.Cells
section
namespace Go.Ev
@[simp] theorem beq_true_iff {a b:Nat}:Nat.beq a b=true↔a=b:=by simp [Nat.beq_eq]
@[simp] theorem ble_true_iff {a b:Nat}:Nat.ble a b=true↔a≤b:=by simp [Nat.ble_eq]
@[simp] theorem blt_true_iff {a b:Nat}:Nat.blt a b=true↔a<b:=by simp [Nat.blt]; omega
@[simp] theorem beq_false_iff {a b:Nat}:Nat.beq a b=false↔a≠b:=by rw [← Bool.not_eq_true,beq_true_iff]
@[simp] theorem ble_false_iff {a b:Nat}:Nat.ble a b=false↔b<a:=by rw [← Bool.not_eq_true,ble_true_iff]; omega
@[simp] theorem blt_false_iff {a b:Nat}:Nat.blt a b=false↔b≤a:=by rw [← Bool.not_eq_true,blt_true_iff]; omega
theorem of_cond_some {α:Type} {b:Bool} {x:Option α} {r:α} (h:(bif b then x else none)=some r):b=true∧x=some r:=by
 cases b <;> simp_all
theorem of_cond_none {α:Type} {b:Bool} {x:Option α} {r:α} (h:(bif b then none else x)=some r):b=false∧x=some r:=by
 cases b <;> simp_all
theorem of_bind {α β:Type} {x:Option α} {f:α→Option β} {r:β} (h:x.bind f=some r):∃ a,x=some a∧f a=some r:=by
 cases x with
 | none=>simp at h
 | some a=>exact ⟨a,rfl,h⟩
namespace Tree
variable {α:Type}
theorem get_setF (x:Option α):∀ (f n m:Nat) (t:Tree α),n<f→(setF x f n t).get m=if m=n then x else t.get m
 | 0,n,_,_,h=>by omega
 | f+1,n,m,.leaf,h=>by
  have i1:=fun k (hk:k<f)=>get_setF x f k (m / 2) .leaf hk
  have i2:=fun k (hk:k<f)=>get_setF x f k (m / 2-1) .leaf hk
  simp only [setF]
  rcases Nat.eq_zero_or_pos n with rfl | hn
  ·by_cases e:m=0
   ·subst e; simp [get]
   ·simp [get,e,show Nat.beq m 0=false from by simpa using e]
  ·rw [show Nat.beq n 0=false from by simp; omega]
   simp only [cond_false]
   rcases Nat.mod_two_eq_zero_or_one n with hp | hp
   ·rw [show Nat.beq (n % 2) 1=false from by simp; omega]
    simp only [cond_false,get]
    rcases Nat.eq_zero_or_pos m with rfl | hm
    ·simp; omega
    ·rw [show Nat.beq m 0=false from by simp; omega]
     simp only [cond_false]
     rcases Nat.mod_two_eq_zero_or_one m with hq | hq
     ·rw [show Nat.beq (m % 2) 1=false from by simp; omega]
      simp only [cond_false]
      rw [i2 _ (by omega)]
      simp only [get]
      by_cases e:m=n
      ·subst e; simp
      ·rw [if_neg e,if_neg (by omega)]
     ·rw [show Nat.beq (m % 2) 1=true from by simp; omega]
      simp; omega
   ·rw [show Nat.beq (n % 2) 1=true from by simp; omega]
    simp only [cond_true,get]
    rcases Nat.eq_zero_or_pos m with rfl | hm
    ·simp; omega
    ·rw [show Nat.beq m 0=false from by simp; omega]
     simp only [cond_false]
     rcases Nat.mod_two_eq_zero_or_one m with hq | hq
     ·rw [show Nat.beq (m % 2) 1=false from by simp; omega]
      simp; omega
     ·rw [show Nat.beq (m % 2) 1=true from by simp; omega]
      simp only [cond_true]
      rw [i1 _ (by omega)]
      simp only [get]
      by_cases e:m=n
      ·subst e; simp
      ·rw [if_neg e,if_neg (by omega)]
 | f+1,n,m,.node l v r,h=>by
  have i1:=fun k (hk:k<f)=>get_setF x f k (m / 2) l hk
  have i2:=fun k (hk:k<f)=>get_setF x f k (m / 2-1) r hk
  simp only [setF]
  rcases Nat.eq_zero_or_pos n with rfl | hn
  ·by_cases e:m=0
   ·subst e; simp [get]
   ·simp [get,e,show Nat.beq m 0=false from by simpa using e]
  ·rw [show Nat.beq n 0=false from by simp; omega]
   simp only [cond_false]
   rcases Nat.mod_two_eq_zero_or_one n with hp | hp
   ·rw [show Nat.beq (n % 2) 1=false from by simp; omega]
    simp only [cond_false,get]
    rcases Nat.eq_zero_or_pos m with rfl | hm
    ·simp; omega
    ·rw [show Nat.beq m 0=false from by simp; omega]
     simp only [cond_false]
     rcases Nat.mod_two_eq_zero_or_one m with hq | hq
     ·rw [show Nat.beq (m % 2) 1=false from by simp; omega]
      simp only [cond_false]
      rw [i2 _ (by omega)]
      by_cases e:m=n
      ·subst e; simp
      ·rw [if_neg e,if_neg (by omega)]
     ·rw [show Nat.beq (m % 2) 1=true from by simp; omega]
      simp; omega
   ·rw [show Nat.beq (n % 2) 1=true from by simp; omega]
    simp only [cond_true,get]
    rcases Nat.eq_zero_or_pos m with rfl | hm
    ·simp; omega
    ·rw [show Nat.beq m 0=false from by simp; omega]
     simp only [cond_false]
     rcases Nat.mod_two_eq_zero_or_one m with hq | hq
     ·rw [show Nat.beq (m % 2) 1=false from by simp; omega]
      simp; omega
     ·rw [show Nat.beq (m % 2) 1=true from by simp; omega]
      simp only [cond_true]
      rw [i1 _ (by omega)]
      by_cases e:m=n
      ·subst e; simp
      ·rw [if_neg e,if_neg (by omega)]
theorem get_set (t:Tree α) (n m:Nat) (x:α):(t.set n x).get m=if m=n then some x else t.get m:=get_setF _ _ _ _ _ (by omega)
theorem get_del (t:Tree α) (n m:Nat):(t.del n).get m=if m=n then none else t.get m:=get_setF _ _ _ _ _ (by omega)
theorem get_set_same (t:Tree α) (n:Nat) (x:α):(t.set n x).get n=some x:=by rw [get_set,if_pos rfl]
theorem get_set_ne (t:Tree α) {n m:Nat} (x:α) (h:m≠n):(t.set n x).get m=t.get m:=by rw [get_set,if_neg h]
@[simp] theorem get_leaf (n:Nat):(Tree.leaf:Tree α).get n=none:=rfl
theorem half_get:∀ (l:List α) (i:Nat),(half l)[i]? = l[2*i]?
 | [],i=>by simp [half]
 | [x],i=>by
  cases i with
  | zero=>simp [half]
  | succ i=>simp [half,show 2*(i+1)=2*i+1+1 from by omega]
 | x::y::l,i=>by
  cases i with
  | zero=>simp [half]
  | succ i=>simp only [half,List.getElem?_cons_succ,half_get l i,show 2*(i+1)=2*i+1+1 from by omega]
theorem half_length:∀ (l:List α),(half l).length≤l.length
 | []=>by simp [half]
 | [x]=>by simp [half]
 | x::y::l=>by have:=half_length l; simp [half]; omega
theorem get_ofListF:∀ (f:Nat) (l:List α) (i:Nat),l.length<f→(ofListF f l).get i=l[i]?
 | 0,_,_,h=>by omega
 | f+1,[],i,_=>by simp [ofListF]
 | f+1,x::l,i,h=>by
  have h1:=half_length l
  have h2:=half_length l.tail
  have h3:l.tail.length≤l.length:=by simp
  simp at h
  simp only [ofListF,get]
  rcases Nat.eq_zero_or_pos i with rfl | hi
  ·simp
  ·rw [show Nat.beq i 0=false from by simp; omega]
   simp only [cond_false]
   obtain ⟨j,rfl⟩:∃ j,i=j+1:=⟨i-1,by omega⟩
   rcases Nat.mod_two_eq_zero_or_one (j+1) with hp | hp
   ·rw [show Nat.beq ((j+1) % 2) 1=false from by simp; omega]
    simp only [cond_false]
    rw [get_ofListF f _ _ (by omega),half_get]
    cases l with
    | nil=>simp
    | cons y l=>
     obtain ⟨q,rfl⟩:∃ q,j=q+1:=⟨j-1,by omega⟩
     simp only [List.tail_cons,List.getElem?_cons_succ]
     congr 1; omega
   ·rw [show Nat.beq ((j+1) % 2) 1=true from by simp; omega]
    simp only [cond_true]
    rw [get_ofListF f _ _ (by omega),half_get]
    simp only [List.getElem?_cons_succ]
    congr 1; omega
theorem get_ofList (l:List α) (i:Nat):(ofList l).get i=l[i]?:=get_ofListF _ _ _ (by omega)
end Tree
namespace Rope
variable {α:Type}
def Ok:Rope α→Prop
 | .cat n l r=>n=l.size+r.size∧l.Ok∧r.Ok
 | _=>True
@[simp] theorem size_nil:(nil:Rope α).size=0:=rfl
@[simp] theorem size_one (v:α):(one v).size=1:=rfl
@[simp] theorem size_lst (cs:List α):(lst cs).size=cs.length:=rfl
@[simp] theorem size_cat (n:Nat) (l r:Rope α):(cat n l r).size=n:=rfl
theorem size_eq:∀ {r:Rope α},r.Ok→r.size=r.toList.length
 | .nil,_=>rfl
 | .one _,_=>rfl
 | .lst _,_=>rfl
 | .cat n l r,h=>by rw [size_cat,h.1,size_eq h.2.1,size_eq h.2.2]; simp [toList]
theorem get_eq:∀ {r:Rope α} (i:Nat),r.Ok→r.get i=r.toList[i]?
 | .nil,_,_=>by simp [get,toList]
 | .one v,i,_=>by
  cases i with
  | zero=>simp [get,toList]
  | succ i=>simp [get,toList,show Nat.beq (i+1) 0=false from by simp]
 | .lst _,_,_=>rfl
 | .cat n l r,i,h=>by
  have hs:=size_eq h.2.1
  simp only [get,toList]
  by_cases hi:i<l.size
  ·rw [show Nat.blt i l.size=true from by simpa]
   simp only [cond_true]
   rw [get_eq i h.2.1,List.getElem?_append_left (by omega)]
  ·rw [show Nat.blt i l.size=false from by simpa using hi]
   simp only [cond_false]
   rw [get_eq _ h.2.2,List.getElem?_append_right (by omega),hs]
theorem ext_ok:∀ {r:Rope α} (off k:Nat),r.Ok→off+k≤r.size→(r.ext off k).Ok∧(r.ext off k).toList=(r.toList.drop off).take k
 | .nil,off,k,_,h=>by simp [ext,Ok,toList]
 | .one v,off,k,_,h=>by
  simp only [size_one] at h
  simp only [ext]
  by_cases hk:k=1
  ·subst hk; obtain rfl:off=0:=by omega
   simp [Ok,toList]
  ·rw [show Nat.beq k 1=false from by simpa using hk]
   obtain rfl:k=0:=by omega
   simp [Ok,toList]
 | .lst cs,off,k,_,h=>by simp [ext,Ok,toList]
 | .cat n l r,off,k,hok,h=>by
  obtain ⟨hn,hl,hr⟩:=hok
  have sl:=size_eq hl
  have sr:=size_eq hr
  simp only [size_cat] at h
  simp only [ext]
  by_cases h1:k=n
  ·rw [show Nat.beq k n=true from by simpa]
   obtain rfl:off=0:=by omega
   refine ⟨⟨hn,hl,hr⟩,?_⟩
   simp only [cond_true,toList,List.drop_zero]
   rw [List.take_of_length_le (by simp; omega)]
  ·rw [show Nat.beq k n=false from by simpa using h1]
   simp only [cond_false]
   by_cases h2:off+k≤l.size
   ·rw [show Nat.ble (off+k) l.size=true from by simpa]
    simp only [cond_true]
    obtain ⟨a,b⟩:=ext_ok off k hl h2
    refine ⟨a,?_⟩
    rw [b]; simp only [toList]
    rw [List.drop_append_of_le_length (by omega),List.take_append_of_le_length (by simp; omega)]
   ·rw [show Nat.ble (off+k) l.size=false from by simp; omega]
    simp only [cond_false]
    by_cases h3:l.size≤off
    ·rw [show Nat.ble l.size off=true from by simpa]
     simp only [cond_true]
     obtain ⟨a,b⟩:=ext_ok (off-l.size) k hr (by omega)
     refine ⟨a,?_⟩
     rw [b]; simp only [toList]
     rw [List.drop_append,List.drop_eq_nil_of_le (show l.toList.length≤off by omega),List.nil_append,sl]
    ·rw [show Nat.ble l.size off=false from by simp; omega]
     simp only [cond_false]
     obtain ⟨a,b⟩:=ext_ok off (l.size-off) hl (by omega)
     obtain ⟨c,d⟩:=ext_ok 0 (off+k-l.size) hr (by omega)
     have s1:=size_eq a
     have s2:=size_eq c
     refine ⟨⟨?_,a,c⟩,?_⟩
     ·rw [s1,s2,b,d]; simp; omega
     ·simp only [toList,b,d,List.drop_zero]
      rw [List.drop_append,List.take_append]
      have e1:(l.toList.drop off).take (l.size-off)=(l.toList.drop off).take k:=by
       rw [List.take_of_length_le (by simp; omega),List.take_of_length_le (by simp; omega)]
      rw [e1,show off-l.toList.length=0 from by omega,List.drop_zero]
      congr 2
      simp; omega
theorem put_ok:∀ {r:Rope α} (off:Nat) {new:Rope α},r.Ok→new.Ok→off+new.size≤r.size →
  (r.put off new).Ok∧(r.put off new).size=r.size∧(r.put off new).toList=r.toList.take off++new.toList++r.toList.drop (off+new.size)
 | .nil,off,new,_,hn,h=>by
  have:=size_eq hn
  simp only [size_nil] at h
  have e:new.toList=[]:=List.eq_nil_of_length_eq_zero (by omega)
  simp [put,Ok,toList,e]
 | .one v,off,new,_,hn,h=>by
  have sn:=size_eq hn
  simp only [size_one] at h
  simp only [put]
  by_cases hk:new.size=1
  ·rw [show Nat.beq new.size 1=true from by simpa]
   obtain rfl:off=0:=by omega
   refine ⟨hn,by simpa using hk,?_⟩
   simp [toList,hk]
  ·rw [show Nat.beq new.size 1=false from by simpa using hk]
   have e:new.toList=[]:=List.eq_nil_of_length_eq_zero (by omega)
   have e2:new.size=0:=by omega
   simp only [cond_false,Ok,toList,e,e2,size_one,true_and,List.append_nil,Nat.add_zero,List.take_append_drop]
 | .lst cs,off,new,_,hn,h=>by
  have sn:=size_eq hn
  simp only [size_lst] at h
  refine ⟨trivial,?_,rfl⟩
  simp only [put,size_lst,List.length_append,List.length_take,List.length_drop]; omega
 | .cat n l r,off,new,hok,hn,h=>by
  obtain ⟨hnn,hl,hr⟩:=hok
  have sl:=size_eq hl
  have sr:=size_eq hr
  have sn:=size_eq hn
  simp only [size_cat] at h
  simp only [put]
  by_cases h1:new.size=n
  ·rw [show Nat.beq new.size n=true from by simpa]
   obtain rfl:off=0:=by omega
   refine ⟨hn,by simpa using h1,?_⟩
   simp only [cond_true,toList]
   rw [List.drop_eq_nil_of_le (by simp; omega)]; simp
  ·rw [show Nat.beq new.size n=false from by simpa using h1]
   simp only [cond_false]
   by_cases h2:off+new.size≤l.size
   ·rw [show Nat.ble (off+new.size) l.size=true from by simpa]
    simp only [cond_true]
    obtain ⟨a,b,c⟩:=put_ok off hl hn h2
    refine ⟨⟨by omega,a,hr⟩,rfl,?_⟩
    simp only [toList,c]
    rw [List.take_append_of_le_length (by omega),List.drop_append_of_le_length (by omega)]
    simp
   ·rw [show Nat.ble (off+new.size) l.size=false from by simp; omega]
    simp only [cond_false]
    by_cases h3:l.size≤off
    ·rw [show Nat.ble l.size off=true from by simpa]
     simp only [cond_true]
     obtain ⟨a,b,c⟩:=put_ok (off-l.size) hr hn (by omega)
     refine ⟨⟨by omega,hl,a⟩,rfl,?_⟩
     simp only [toList,c]
     rw [List.take_append,List.take_of_length_le (show l.toList.length≤off by omega),List.drop_append,List.drop_eq_nil_of_le (show l.toList.length≤off+new.size by omega)]
     simp [sl,show off-l.toList.length+new.size=off+new.size-l.toList.length from by omega]
    ·rw [show Nat.ble l.size off=false from by simp; omega]
     simp only [cond_false]
     obtain ⟨e1,e2⟩:=ext_ok 0 (l.size-off) hn (by omega)
     obtain ⟨e3,e4⟩:=ext_ok (l.size-off) (off+new.size-l.size) hn (by omega)
     have s1:=size_eq e1
     have s3:=size_eq e3
     have k1:(new.ext 0 (l.size-off)).size=l.size-off:=by rw [s1,e2]; simp; omega
     have k3:(new.ext (l.size-off) (off+new.size-l.size)).size=off+new.size-l.size:=by rw [s3,e4]; simp; omega
     obtain ⟨a,b,c⟩:=put_ok off hl e1 (by omega)
     obtain ⟨a',b',c'⟩:=put_ok 0 hr e3 (by omega)
     refine ⟨⟨by omega,a,a'⟩,rfl,?_⟩
     simp only [toList,c,c',e2,e4,k1,k3]
     rw [List.drop_eq_nil_of_le (show l.toList.length≤off+(l.size-off) by omega)]
     rw [List.take_append_of_le_length (show off≤l.toList.length by omega),List.drop_append,List.drop_eq_nil_of_le (show l.toList.length≤off+new.size by omega)]
     have e5:List.take (off+new.size-l.size) (List.drop (l.size-off) new.toList)=List.drop (l.size-off) new.toList:=List.take_of_length_le (by simp; omega)
     rw [e5]
     simp only [List.drop_zero,List.append_nil,List.nil_append,List.take_zero,Nat.zero_add,List.append_assoc]
     rw [← List.append_assoc (List.take (l.size-off) new.toList),List.take_append_drop,sl]
theorem ofListF_ok:∀ (f:Nat) (l:List α),(ofListF f l).Ok∧(ofListF f l).toList=l∧(ofListF f l).size=l.length
 | 0,l=>⟨trivial,rfl,rfl⟩
 | f+1,[]=>⟨trivial,rfl,rfl⟩
 | f+1,[x]=>⟨trivial,rfl,rfl⟩
 | f+1,x::y::l=>by
  obtain ⟨a,b,c⟩:=ofListF_ok f ((x::y::l).take ((l.length+2) / 2))
  obtain ⟨a',b',c'⟩:=ofListF_ok f ((x::y::l).drop ((l.length+2) / 2))
  refine ⟨⟨?_,a,a'⟩,?_,by simp [ofListF]⟩
  ·rw [c,c']; simp; omega
  ·simp only [ofListF,toList,b,b',List.take_append_drop]
theorem ofList_ok (l:List α):(ofList l).Ok∧(ofList l).toList=l∧(ofList l).size=l.length:=ofListF_ok _ _
theorem app_ok {a b:Rope α} (ha:a.Ok) (hb:b.Ok):(a.app b).Ok∧(a.app b).toList=a.toList++b.toList∧(a.app b).size=a.size+b.size:=⟨⟨rfl,ha,hb⟩,rfl,rfl⟩
theorem repF_ok {r:Rope α} (h:r.Ok):∀ (f n:Nat),(repF r f n).Ok∧(repF r f n).toList=(List.replicate n r.toList).flatten∧(repF r f n).size=n*r.size
 | 0,n=>⟨trivial,rfl,by simp [repF,size_eq h]⟩
 | f+1,n=>by
  simp only [repF]
  by_cases h0:n=0
  ·subst h0; simp [Ok,toList]
  ·rw [show Nat.beq n 0=false from by simpa using h0]
   simp only [cond_false]
   by_cases h1:n=1
   ·subst h1; simp [h]
   ·rw [show Nat.beq n 1=false from by simpa using h1]
    simp only [cond_false]
    obtain ⟨a,b,c⟩:=repF_ok h f (n / 2)
    obtain ⟨a',b',c'⟩:=repF_ok h f (n-n / 2)
    refine ⟨⟨?_,a,a'⟩,?_,rfl⟩
    ·rw [c,c',← Nat.add_mul]; congr 1; omega
    ·simp only [toList,b,b']
     rw [← List.flatten_append,List.replicate_append_replicate]
     congr 2; omega
theorem rep_ok {r:Rope α} (h:r.Ok) (n:Nat):(r.rep n).Ok∧(r.rep n).toList=(List.replicate n r.toList).flatten∧(r.rep n).size=n*r.size:=repF_ok h _ _
end Rope
end Go.Ev
end
section
namespace Go.Ev
abbrev Ren:=Nat→Option (Nat×Nat×Nat)
def xcap (op:Bool) (ex:Nat):Nat:=if op then ex else 0
mutual
inductive VRel (ρ:Ren):V→Value→Prop
 | s (x:Value):VRel ρ (.s x) x
 | ptr {b off c sh ex:Nat} (h:ρ b=some (c,sh,ex)):VRel ρ (.ptr b off) (.pointer (some ⟨c,off+sh,none⟩))
 | slice {b off len cap c sh ex o:Nat} {op:Bool} (h:ρ b=some (c,sh,ex)) (hl:len≤cap) (ho:cap+xcap op ex≠0→o=off+sh) :
   VRel ρ (.slice b off len cap op) (.slice (some ⟨c,o,none⟩) len (cap+xcap op ex))
 | map {b c sh ex:Nat} (h:ρ b=some (c,sh,ex)):VRel ρ (.map b) (.map (some c))
 | func {fn:Fn} {first caps:List V} {xs ys:List Value} (h1:VRels ρ first xs) (h2:VRels ρ caps ys):VRel ρ (.func fn first caps) (.func fn xs.toArray ys.toArray)
 | yield {l c sh ex:Nat} (h:ρ l=some (c,sh,ex)):VRel ρ (.yield l) (.func (.yield c) #[] #[])
 | iface {t:TypeId} {v:V} {x:Value} (h:VRel ρ v x):VRel ρ (.iface t v) (.iface t x)
 | agg {r:Rope V} {xs:List Value} (hok:r.Ok) (h:VRels ρ r.toList xs) (hc:∀ x∈xs,x.oneCell'=true):VRel ρ (.agg r) (.agg xs.toArray)
 | tup {vs:List V} {xs:List Value} (h:VRels ρ vs xs):VRel ρ (.tup vs) (.tuple xs.toArray)
inductive VRels (ρ:Ren):List V→List Value→Prop
 | nil:VRels ρ [] []
 | cons {v:V} {x:Value} {vs:List V} {xs:List Value} (h:VRel ρ v x) (hs:VRels ρ vs xs):VRels ρ (v::vs) (x::xs)
end
def Ren.le (ρ ρ':Ren):Prop:=∀ b x,ρ b=some x→ρ' b=some x
theorem Ren.le_refl (ρ:Ren):ρ.le ρ:=fun _ _ h=>h
theorem Ren.le_trans {a b c:Ren} (h:a.le b) (k:b.le c):a.le c:=fun _ _ e=>k _ _ (h _ _ e)
mutual
theorem VRel.mono {ρ ρ':Ren} (hle:ρ.le ρ'):∀ {v:V} {x:Value},VRel ρ v x→VRel ρ' v x
 | _,_,.s x=>.s x
 | _,_,.ptr h=>.ptr (hle _ _ h)
 | _,_,.slice h hl ho=>.slice (hle _ _ h) hl ho
 | _,_,.map h=>.map (hle _ _ h)
 | _,_,.func h1 h2=>.func (VRels.mono hle h1) (VRels.mono hle h2)
 | _,_,.yield h=>.yield (hle _ _ h)
 | _,_,.iface h=>.iface (VRel.mono hle h)
 | _,_,.agg hok h hc=>.agg hok (VRels.mono hle h) hc
 | _,_,.tup h=>.tup (VRels.mono hle h)
theorem VRels.mono {ρ ρ':Ren} (hle:ρ.le ρ'):∀ {vs:List V} {xs:List Value},VRels ρ vs xs→VRels ρ' vs xs
 | _,_,.nil=>.nil
 | _,_,.cons h hs=>.cons (VRel.mono hle h) (VRels.mono hle hs)
end
namespace VRels
variable {ρ:Ren}
theorem length:∀ {vs:List V} {xs:List Value},VRels ρ vs xs→vs.length=xs.length
 | _,_,.nil=>rfl
 | _,_,.cons _ hs=>by simp [length hs]
theorem get:∀ {vs:List V} {xs:List Value} {i:Nat} {v:V},VRels ρ vs xs→vs[i]? = some v→∃ x,xs[i]? = some x∧VRel ρ v x
 | _,_,_,_,.nil,e=>by simp at e
 | _,_,0,_,.cons h _,e=>by simp at e; subst e; exact ⟨_,by simp,h⟩
 | _,_,i+1,_,.cons _ hs,e=>by
  obtain ⟨x,h1,h2⟩:=get (i:=i) hs (by simpa using e)
  exact ⟨x,by simpa using h1,h2⟩
theorem append:∀ {vs us:List V} {xs ys:List Value},VRels ρ vs xs→VRels ρ us ys→VRels ρ (vs++us) (xs++ys)
 | _,_,_,_,.nil,k=>k
 | _,_,_,_,.cons h hs,k=>.cons h (append hs k)
theorem take:∀ (n:Nat) {vs:List V} {xs:List Value},VRels ρ vs xs→VRels ρ (vs.take n) (xs.take n)
 | 0,_,_,_=>by simpa using .nil
 | n+1,_,_,.nil=>.nil
 | n+1,_,_,.cons h hs=>.cons h (take n hs)
theorem drop:∀ (n:Nat) {vs:List V} {xs:List Value},VRels ρ vs xs→VRels ρ (vs.drop n) (xs.drop n)
 | 0,_,_,h=>by simpa using h
 | n+1,_,_,.nil=>.nil
 | n+1,_,_,.cons _ hs=>drop n hs
theorem replicate {vs:List V} {xs:List Value} (h:VRels ρ vs xs):∀ n,VRels ρ (List.replicate n vs).flatten (List.replicate n xs).flatten
 | 0=>by simpa using .nil
 | n+1=>by simpa [List.replicate_succ] using h.append (replicate h n)
theorem single {v:V} {x:Value} (h:VRel ρ v x):VRels ρ [v] [x]:=.cons h .nil
theorem split:∀ {vs us:List V} {xs:List Value},VRels ρ (vs++us) xs→∃ ys zs,xs=ys++zs∧VRels ρ vs ys∧VRels ρ us zs
 | [],us,xs,h=>⟨[],xs,rfl,.nil,h⟩
 | v::vs,us,_,.cons h hs=>by
  obtain ⟨ys,zs,rfl,h1,h2⟩:=split (vs:=vs) hs
  exact ⟨_::ys,zs,rfl,.cons h h1,h2⟩
theorem scalarsMap {α:Type} (f:α→Value):∀ l:List α,VRels ρ (l.map fun a=>.s (f a)) (l.map f)
 | []=>.nil
 | a::l=>.cons (.s _) (scalarsMap f l)
theorem nil_inv {xs:List Value} (h:VRels ρ [] xs):xs=[]:=by cases h; rfl
theorem cons_inv {v:V} {vs:List V} {xs:List Value} (h:VRels ρ (v::vs) xs):∃ y ys,xs=y::ys∧VRel ρ v y∧VRels ρ vs ys:=by
 cases h with | cons h hs=>exact ⟨_,_,rfl,h,hs⟩
end VRels
theorem VRel.cells {ρ:Ren} {v:V} {x:Value} {r:Rope V} (h:VRel ρ v x) (hf:v.cells=some r) :
  r.Ok∧VRels ρ r.toList x.cells.toList∧∀ y∈x.cells.toList,y.oneCell'=true:=by
 have one:∀ {u:V} {y:Value},VRel ρ u y→(flatV u=true→y.oneCell'=true)→(bif flatV u then some (Rope.one u) else none)=some r→y.cells=#[y] →
   r.Ok∧VRels ρ r.toList y.cells.toList∧∀ z∈y.cells.toList,z.oneCell'=true:=by
  intro u y hu hc hf hy
  obtain ⟨e1,e2⟩:=of_cond_some hf
  cases e2
  rw [hy]
  exact ⟨trivial,.single hu,by simpa using hc e1⟩
 cases h with
 | s x=>cases x <;> first | exact one (.s _) (fun _=>rfl) hf rfl | simp [V.cells,flatV] at hf
 | agg hok h hc=>simp only [V.cells] at hf; cases hf; exact ⟨hok,by simpa [Value.cells] using h,by simpa [Value.cells] using hc⟩
 | ptr h=>exact one (.ptr h) (fun _=>rfl) hf rfl
 | slice h hl ho=>exact one (.slice h hl ho) (fun _=>rfl) hf rfl
 | map h=>exact one (.map h) (fun _=>rfl) hf rfl
 | func h1 h2=>exact one (.func h1 h2) (fun _=>rfl) hf rfl
 | yield h=>exact one (.yield h) (fun _=>rfl) hf rfl
 | iface h=>exact one (.iface h) (fun _=>rfl) hf rfl
 | tup h=>simp [V.cells,flatV] at hf
inductive ERel (ρ:Ren):Ent→MapEntry→Prop
 | mk {k v:V} {n:Nat} {x y:Value} (hk:VRel ρ k x) (hv:VRel ρ v y):ERel ρ ⟨k,v,n⟩ ⟨x,y,n⟩
inductive ERels (ρ:Ren):List Ent→List MapEntry→Prop
 | nil:ERels ρ [] []
 | cons {e:Ent} {m:MapEntry} {es:List Ent} {ms:List MapEntry} (h:ERel ρ e m) (hs:ERels ρ es ms):ERels ρ (e::es) (m::ms)
theorem ERel.mono {ρ ρ':Ren} (hle:ρ.le ρ') {e:Ent} {m:MapEntry} (h:ERel ρ e m):ERel ρ' e m:=by
 cases h with | mk hk hv=>exact .mk (hk.mono hle) (hv.mono hle)
theorem ERels.mono {ρ ρ':Ren} (hle:ρ.le ρ'):∀ {es:List Ent} {ms:List MapEntry},ERels ρ es ms→ERels ρ' es ms
 | _,_,.nil=>.nil
 | _,_,.cons h hs=>.cons (h.mono hle) (ERels.mono hle hs)
theorem ERels.length {ρ:Ren}:∀ {es:List Ent} {ms:List MapEntry},ERels ρ es ms→es.length=ms.length
 | _,_,.nil=>rfl
 | _,_,.cons _ hs=>by simp [ERels.length hs]
structure TmRel (ρ:Ren) (tm:Tm) (tmps:Array Value):Prop where
 size:tmps.size=tm.n
 get:∀ i,VRel ρ (tm.get i) (tmps.getD i undef)
theorem TmRel.mono {ρ ρ':Ren} (hle:ρ.le ρ') {tm:Tm} {tmps:Array Value} (h:TmRel ρ tm tmps):TmRel ρ' tm tmps:=⟨h.size,fun i=>(h.get i).mono hle⟩
inductive ORel (ρ:Ren) (sh ex:Nat):O→Obj→Prop
 | cells {r:Rope V} {es:Nat} {arr:Array Value} {t:TypeId} {fz:Nat×Nat} (hok:r.Ok) (pre mid post:List Value) (ha:arr.toList=pre++mid++post)
   (hp:pre.length=sh) (hm:VRels ρ r.toList mid) (hc:∀ x∈mid,x.oneCell'=true) (hx:ex*es≤post.length)
   (hz:∀ i,i<arr.size→¬ (fz.1≤i∧i<fz.2)):ORel ρ sh ex (.cells r es) (.cells arr t fz)
 | map {es:List Ent} {ms:List MapEntry} {clock:Nat} (hs:sh=0) (h:ERels ρ es ms):ORel ρ sh ex (.map es clock) (.map ms.toArray clock)
 | mapIterNil {since stepped:Nat} {seen:List Nat} (hs:sh=0):ORel ρ sh ex (.mapIter none since seen stepped) (.mapIter none since seen.toArray stepped)
 | mapIter {b c s x since stepped:Nat} {seen:List Nat} (hs:sh=0) (h:ρ b=some (c,s,x)) :
   ORel ρ sh ex (.mapIter (some b) since seen stepped) (.mapIter (some c) since seen.toArray stepped)
 | strIter {s:ByteArray} {pos:Nat} (hs:sh=0):ORel ρ sh ex (.strIter s pos) (.stringIter s pos)
 | loop {st:LoopState} {pending:Option Code} {tm:Tm} {params:List Tmp} {assign body:Code} {l:Loop} (hs:sh=0) (h1:l.state=st) (h2:l.pending=pending)
   (h3:TmRel ρ tm l.tmps) (h4:l.params=params.toArray) (h5:l.assign=assign) (h6:l.body=body):ORel ρ sh ex (.loop st pending tm params assign body) (.loop l)
 | defd (hs:sh=0):ORel ρ sh ex .defd (.deferred (some []))
 | ro {r:Rope V} {es:Nat} {arr:Array Value} {t:TypeId} {fz:Nat×Nat} (hok:r.Ok) (pre mid post:List Value) (ha:arr.toList=pre++mid++post)
   (hp:pre.length=sh) (hm:VRels ρ r.toList mid) (hc:∀ x∈mid,x.oneCell'=true):ORel ρ sh ex (.ro r es) (.cells arr t fz)
 | roMap {es:List Ent} {ms:List MapEntry} {clock:Nat} (hs:sh=0) (h:ERels ρ es ms):ORel ρ sh ex (.roMap es clock) (.map ms.toArray clock)
theorem ORel.mono {ρ ρ':Ren} (hle:ρ.le ρ') {sh ex:Nat} {o:O} {obj:Obj} (h:ORel ρ sh ex o obj):ORel ρ' sh ex o obj:=by
 cases h with
 | cells hok pre mid post ha hp hm hc hx hz=>exact .cells hok pre mid post ha hp (hm.mono hle) hc hx hz
 | map hs h=>exact .map hs (h.mono hle)
 | mapIterNil hs=>exact .mapIterNil hs
 | mapIter hs h=>exact .mapIter hs (hle _ _ h)
 | strIter hs=>exact .strIter hs
 | loop hs h1 h2 h3 h4 h5 h6=>exact .loop hs h1 h2 (h3.mono hle) h4 h5 h6
 | defd hs=>exact .defd hs
 | ro hok pre mid post ha hp hm hc=>exact .ro hok pre mid post ha hp (hm.mono hle) hc
 | roMap hs h=>exact .roMap hs (h.mono hle)
structure HRel (ρ:Ren) (h:Heap) (w:World):Prop where
 obj:∀ b o,h.get b=some o→∃ c sh ex x,ρ b=some (c,sh,ex)∧w.heap[c]? = some x∧ORel ρ sh ex o x
 inj:∀ b b' o o' x x',h.get b=some o→h.get b'=some o'→o.own=true→ρ b=some x→ρ b'=some x'→x.1=x'.1→b=b'
theorem HRel.at {ρ:Ren} {h:Heap} {w:World} (H:HRel ρ h w) {b:Nat} {o:O} {c sh ex:Nat} (hb:h.get b=some o) (hr:ρ b=some (c,sh,ex)) :
  ∃ x,w.heap[c]? = some x∧ORel ρ sh ex o x:=by
 obtain ⟨c',sh',ex',x,h1,h2,h3⟩:=H.obj b o hb
 rw [hr] at h1
 cases h1
 exact ⟨x,h2,h3⟩
theorem HRel.lt {ρ:Ren} {h:Heap} {w:World} (H:HRel ρ h w) {b:Nat} {o:O} {x:Nat×Nat×Nat} (hb:h.get b=some o) (hr:ρ b=some x):x.1<w.heap.size:=by
 obtain ⟨c,sh,ex⟩:=x
 obtain ⟨y,h1,_⟩:=H.at hb hr
 exact (Array.getElem?_eq_some_iff.1 h1).1
theorem HRel.weaken {ρ:Ren} {h h':Heap} {w:World} (H:HRel ρ h w) (hs:∀ b o,h'.get b=some o→h.get b=some o):HRel ρ h' w:=
 ⟨fun b o hb=>H.obj b o (hs _ _ hb),fun b b' o o' x x' h1 h2=>H.inj b b' o o' x x' (hs _ _ h1) (hs _ _ h2)⟩
structure Side (w w':World):Prop where
 tape:w'.tape=w.tape
 os:w'.os=w.os
 output:w'.output=w.output
theorem Side.refl (w:World):Side w w:=⟨rfl,rfl,rfl⟩
theorem Side.trans {a b c:World} (h:Side a b) (k:Side b c):Side a c:=⟨k.1.trans h.1,k.2.trans h.2,k.3.trans h.3⟩
structure Evo (ρ:Ren) (h:Heap) (n:Nat) (w:World) (ρ':Ren) (h':Heap) (n':Nat) (w':World):Prop where
 le:ρ.le ρ'
 new:∀ b x,ρ' b=some x→ρ b=none→n≤b∧b<n'
 num:n≤n'
 hrel:HRel ρ' h' w'
 size:w.heap.size≤w'.heap.size
 frame:∀ c,c<w.heap.size→(∀ b o x,h.get b=some o→o.own=true→ρ b=some x→x.1≠c)→w'.heap[c]? = w.heap[c]?
 dom:∀ b o x,h'.get b=some o→o.own=true→ρ' b=some x→(∃ b0 o0 x0,h.get b0=some o0∧o0.own=true∧ρ b0=some x0∧x0.1=x.1)∨w.heap.size≤x.1
 ros:∀ b o,h'.get b=some o→o.own=false→h.get b=some o
 side:Side w w'
theorem Evo.refl {ρ:Ren} {h:Heap} {w:World} (n:Nat) (H:HRel ρ h w):Evo ρ h n w ρ h n w:=
 ⟨Ren.le_refl ρ,fun b x h1 h2=>(by rw [h1] at h2; cases h2),Nat.le_refl _,H,Nat.le_refl _,fun _ _ _=>rfl,fun b o x h1 ho h2=>.inl ⟨b,o,x,h1,ho,h2,rfl⟩,fun _ _ h _=>h,.refl _⟩
theorem Evo.trans {ρ0 ρ1 ρ2:Ren} {h0 h1 h2:Heap} {n0 n1 n2:Nat} {w0 w1 w2:World} (a:Evo ρ0 h0 n0 w0 ρ1 h1 n1 w1) (b:Evo ρ1 h1 n1 w1 ρ2 h2 n2 w2) :
  Evo ρ0 h0 n0 w0 ρ2 h2 n2 w2:=by
 refine ⟨Ren.le_trans a.le b.le,?_,Nat.le_trans a.num b.num,b.hrel,Nat.le_trans a.size b.size,?_,?_,fun k o hk ho=>a.ros k o (b.ros k o hk ho) ho,a.side.trans b.side⟩
 ·intro k x h2 h0
  cases h1:ρ1 k with
  | none=>have:=b.new k x h2 h1; have:=a.num; omega
  | some y=>have:=a.new k y h1 h0; have:=b.num; omega
 ·intro c hc hno
  rw [b.frame c (by have:=a.size; omega) ?_,a.frame c hc hno]
  intro k o x hk ho hr e
  rcases a.dom k o x hk ho hr with ⟨b0,o0,x0,g1,g0,g2,g3⟩ | hge
  ·exact hno b0 o0 x0 g1 g0 g2 (by rw [g3,e])
  ·omega
 ·intro k o x hk ho hr
  rcases b.dom k o x hk ho hr with ⟨b1,o1,x1,g1,g0,g2,g3⟩ | hge
  ·rcases a.dom b1 o1 x1 g1 g0 g2 with ⟨b0,o0,x0,k1,k0,k2,k3⟩ | hge
   ·exact .inl ⟨b0,o0,x0,k1,k0,k2,k3.trans g3⟩
   ·right; omega
  ·right; have:=a.size; omega
def Fresh (ρ:Ren) (n n':Nat):Prop:=∀ b,n≤b→b<n'→ρ b=none
@[simp] theorem addr_add (c o n:Nat):(⟨c,o,none⟩:Addr).add n=⟨c,o+n,none⟩:=by unfold Addr.add; split <;> simp_all
theorem Evo.alloc {ρ:Ren} {h:Heap} {w:World} (H:HRel ρ h w) {n b:Nat} {o:O} {x:Obj} {ex:Nat} (hb:ρ b=none) (hn:n≤b) (n':Nat) (hn':b<n') (ho:o.own=true)
  (hx:∀ ρ':Ren,ρ.le ρ'→ORel ρ' 0 ex o x) :
  ∃ ρ':Ren,ρ' b=some (w.heap.size,0,ex)∧Evo ρ h n w ρ' (h.set b o) n' (w.alloc x):=by
 let ρ':Ren:=fun k=>if k=b then some (w.heap.size,0,ex) else ρ k
 have hle:ρ.le ρ':=by
  intro k y hk
  show (if k=b then _ else ρ k)=_
  rw [if_neg (by rintro rfl; rw [hb] at hk; cases hk)]; exact hk
 have hb':ρ' b=some (w.heap.size,0,ex):=by show (if b=b then _ else _)=_; rw [if_pos rfl]
 have hne:∀ k,k≠b→ρ' k=ρ k:=fun k hk=>by show (if k=b then _ else ρ k)=_; rw [if_neg hk]
 refine ⟨ρ',hb',hle,?_,by omega,⟨?_,?_⟩,by simp,?_,?_,?_,⟨rfl,rfl,rfl⟩⟩
 ·intro k y h1 h2
  by_cases e:k=b
  ·omega
  ·rw [hne k e,h2] at h1; cases h1
 ·intro k ok hk
  rw [Tree.get_set] at hk
  by_cases e:k=b
  ·subst e
   rw [if_pos rfl] at hk; cases hk
   exact ⟨_,_,_,x,hb',(by show (w.heap.push x)[w.heap.size]? = some x; simp),hx _ hle⟩
  ·rw [if_neg e] at hk
   obtain ⟨c,sh,ex,y,g1,g2,g3⟩:=H.obj k ok hk
   refine ⟨c,sh,ex,y,by rw [hne k e]; exact g1,?_,g3.mono hle⟩
   have:=(Array.getElem?_eq_some_iff.1 g2).1
   show (w.heap.push x)[c]? = some y
   rw [Array.getElem?_push_lt this,← Array.getElem?_eq_getElem this]; exact g2
 ·intro k k' ok ok' y y' h1 h2 hk0 h3 h4 h5
  rw [Tree.get_set] at h1 h2
  by_cases e:k=b <;> by_cases e':k'=b
  ·rw [e,e']
  ·subst e
   rw [hb'] at h3; cases h3
   rw [if_neg e'] at h2
   rw [hne k' e'] at h4
   have:=H.lt h2 h4
   simp at h5; omega
  ·subst e'
   rw [hb'] at h4; cases h4
   rw [if_neg e] at h1
   rw [hne k e] at h3
   have:=H.lt h1 h3
   simp at h5; omega
  ·rw [if_neg e] at h1; rw [if_neg e'] at h2; rw [hne k e] at h3; rw [hne k' e'] at h4
   exact H.inj k k' ok ok' y y' h1 h2 hk0 h3 h4 h5
 ·intro c hc _
  show (w.heap.push x)[c]? = w.heap[c]?
  rw [Array.getElem?_push_lt hc,← Array.getElem?_eq_getElem hc]
 ·intro k ok y hk hk0 hr
  rw [Tree.get_set] at hk
  by_cases e:k=b
  ·subst e; rw [hb'] at hr; cases hr; right; simp
  ·rw [if_neg e] at hk; rw [hne k e] at hr
   exact .inl ⟨k,ok,y,hk,hk0,hr,rfl⟩
 ·intro k ok hk hk0
  rw [Tree.get_set] at hk
  by_cases e:k=b
  ·rw [if_pos e] at hk; cases hk; rw [ho] at hk0; cases hk0
  ·rw [if_neg e] at hk; exact hk
theorem Evo.turn {ρ:Ren} {h:Heap} {w:World} (H:HRel ρ h w) (n:Nat) {b:Nat} {o o':O} {x':Obj} {c sh ex:Nat} (hb:h.get b=some o) (hr:ρ b=some (c,sh,ex))
  (ho:o.own=true) (ho':o'.own=true) (hx:ORel ρ sh ex o' x') :
  Evo ρ h n w ρ (h.set b o') n { w with heap:=w.heap.setIfInBounds c x' }:=by
 have hlt:c<w.heap.size:=H.lt hb hr
 refine ⟨Ren.le_refl ρ,fun k y h1 h2=>(by rw [h1] at h2; cases h2),Nat.le_refl _,⟨?_,?_⟩,by simp,?_,?_,?_,⟨rfl,rfl,rfl⟩⟩
 ·intro k ok hk
  rw [Tree.get_set] at hk
  by_cases e:k=b
  ·subst e
   rw [if_pos rfl] at hk; cases hk
   exact ⟨c,sh,ex,x',hr,by simp [hlt],hx⟩
  ·rw [if_neg e] at hk
   obtain ⟨c1,sh1,ex1,y,g1,g2,g3⟩:=H.obj k ok hk
   refine ⟨c1,sh1,ex1,y,g1,?_,g3⟩
   have:c≠c1:=fun e1=>e (H.inj b k o ok _ _ hb hk ho hr g1 e1).symm
   simp [Array.getElem?_setIfInBounds_ne this,g2]
 ·intro k k' ok ok' y y' h1 h2 hk0 h3 h4 h5
  have f:∀ j oj,(h.set b o').get j=some oj→∃ oj',h.get j=some oj'∧(oj.own=true→oj'.own=true):=by
   intro j oj hj
   rw [Tree.get_set] at hj
   by_cases e:j=b
   ·exact ⟨o,e ▸ hb,fun _=>ho⟩
   ·rw [if_neg e] at hj; exact ⟨_,hj,id⟩
  obtain ⟨p,hp,hp0⟩:=f _ _ h1
  obtain ⟨q,hq,_⟩:=f _ _ h2
  exact H.inj k k' p q y y' hp hq (hp0 hk0) h3 h4 h5
 ·intro c1 hc1 hno
  have:c≠c1:=hno b o _ hb ho hr
  simp [Array.getElem?_setIfInBounds_ne this]
 ·intro k ok y hk hk0 hr'
  rw [Tree.get_set] at hk
  by_cases e:k=b
  ·subst e; exact .inl ⟨k,o,y,hb,ho,hr',rfl⟩
  ·rw [if_neg e] at hk; exact .inl ⟨k,ok,y,hk,hk0,hr',rfl⟩
 ·intro k ok hk hk0
  rw [Tree.get_set] at hk
  by_cases e:k=b
  ·rw [if_pos e] at hk; cases hk; rw [ho'] at hk0; cases hk0
  ·rw [if_neg e] at hk; exact hk
theorem Evo.drop {ρ:Ren} {h:Heap} {w:World} (H:HRel ρ h w) (n b:Nat):Evo ρ h n w ρ (h.del b) n w:=by
 have f:∀ j oj,(h.del b).get j=some oj→h.get j=some oj:=by
  intro j oj hj
  rw [Tree.get_del] at hj
  by_cases e:j=b
  ·rw [if_pos e] at hj; cases hj
  ·rwa [if_neg e] at hj
 exact ⟨Ren.le_refl ρ,fun k y h1 h2=>(by rw [h1] at h2; cases h2),Nat.le_refl _,H.weaken f,Nat.le_refl _,fun _ _ _=>rfl,fun k o x hk ho hr=>.inl ⟨k,o,x,f _ _ hk,ho,hr,rfl⟩,fun k o hk _=>f _ _ hk,.refl _⟩
theorem Evo.drew {ρ:Ren} {h:Heap} {w:World} (H:HRel ρ h w) (n:Nat):Evo ρ h n w ρ h n w.drew:=
 ⟨Ren.le_refl ρ,fun k y h1 h2=>(by rw [h1] at h2; cases h2),Nat.le_refl _,⟨H.obj,H.inj⟩,Nat.le_refl _,fun _ _ _=>rfl,fun k o x hk ho hr=>.inl ⟨k,o,x,hk,ho,hr,rfl⟩,fun _ _ h _=>h,⟨rfl,rfl,rfl⟩⟩
theorem HRel.drew {ρ:Ren} {h:Heap} {w:World} (H:HRel ρ h w):HRel ρ h w.drew:=⟨H.obj,H.inj⟩
end Go.Ev
end
