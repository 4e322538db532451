import Derived.Test.YtaigdhieijndgaaGreatMQ21
import Derived.Test.YtaigdhieijndgaaGreatRI2
import Derived.Test.YtaigdhieijndgaaGreatMQ20
section
namespace Go.Ev
open Proofs
set_option maxRecDepth 20000
@[simp] theorem zvCell:zv CC 194=.s (.pointer none):=of_eq (by kernel_rfl)
theorem upT_id {τ:Gh} {b:Nat} {k:Ob} (h:τ b=some k):upT τ b k=τ:=by
 funext x
 unfold upT
 split
 ·rename_i hx; rw [hx,h]
 ·rfl
def Stay (fp:Fp) (τ:Gh) (n:Nat) (h h':Heap) (n':Nat):Prop:=TInv τ h' n'∧Keep fp τ τ n h h'
theorem noPart {k:Ob} (h:∀ x i,k≠.part x i):¬ k.isPart:=fun ⟨x,i,e⟩=>h x i e
theorem TInv.same0 {τ:Gh} {h h':Heap} {n n' b:Nat} {k:Ob} (I:TInv τ h n) (hn:n≤n') (hb:τ b=some k) (hk:∀ x i,k≠.part x i) (s:∀ x,x<n→x≠b→(∀ i,τ x≠some (.part b i))→h'.get x=h.get x) (w:WT τ h' b k) {fp:Fp} (hf:fp b k):Stay fp τ n h h' n':=by
 have e:=upT_id hb
 have h1:=I.put hn hb (noPart hk) (noPart hk) s (by rw [e]; exact w)
 rw [e] at h1
 have h2:=Keep.put (k':=k) I hb (noPart hk) s hf
 rw [e] at h2
 exact ⟨h1,h2⟩
abbrev CM:=Int→Option (List Int×Bool)
def CellR (τ:Gh) (C:CM) (g:Int→Option Nat) (x:Int):Prop:=(C x=none∧g x=none)∨∃ l d p,C x=some (l,d)∧g x=some p∧τ p=some (.cell x l d)
structure CellsX (τ:Gh) (c M:Nat) (g:Int→Option Nat) (C:CM) (last:Int):Prop where
 c0:τ c=some (.cells M last)
 m0:τ M=some (.cmap g)
 all:∀ x,CellR τ C g x
def CellsR (τ:Gh) (c:Nat) (C:CM) (last:Int):Prop:=∃ M g,CellsX τ c M g C last
theorem CellsR.keep {τ τ':Gh} {fp:Fp} {h h':Heap} {n c:Nat} {C:CM} {last:Int} (R:CellsR τ c C last) (I:TInv τ h n) (K:Keep fp τ τ' n h h') (hf:∀ b k,τ b=some k→cellFp b k→¬ fp b k):CellsR τ' c C last:=by
 obtain ⟨M,g,h1,h2,h3⟩:=R
 refine ⟨M,g,K.ty c _ (I c _ h1).1 h1 (.inl (hf _ _ (by assumption) trivial)),K.ty M _ (I M _ h2).1 h2 (.inl (hf _ _ (by assumption) trivial)),fun x=>?_⟩
 rcases h3 x with h3 | ⟨l,d,p,a1,a2,a3⟩
 ·exact .inl h3
 ·exact .inr ⟨l,d,p,a1,a2,K.ty p _ (I p _ a3).1 a3 (.inl (hf _ _ (by assumption) trivial))⟩
theorem newCells_ok {τ:Gh} {h:Heap} {n:Nat} (I:TInv τ h n):CallK CC 48 [] h n fun v h' n'=>Goes noFp τ n h h' n' fun τ'=>∃ c,v=.ptr c 0∧n≤c∧CellsR τ' c (fun _=>none) 0:=by
 refine F48_call fun hlt=>?_
 rw [F48_eq]
 simp
 have hs:Same n [] h ((h.set n (.map [] 0)).set (n+1) (.cells (.lst [.map n,.s (.int .i64 0)]) 2)):=fun b hb _=>by
  rw [Tree.get_set,if_neg (by omega),Tree.get_set,if_neg (by omega)]
 refine ⟨upT (upT τ n (.cmap fun _=>none)) (n+1) (.cells n 0),?_,Keep.news (fun x hx=>by rw [upT_other (by omega),upT_other (by omega)]) hs,n,fun _=>none,upT_same _ _ _,by rw [upT_other (by omega),upT_same],fun x=>.inl ⟨rfl,rfl⟩⟩
 refine I.news (by omega) (fun x hx=>by rw [upT_other (by omega),upT_other (by omega)]) hs fun x k e hx=>?_
 by_cases h1:x=n+1
 ·subst h1; rw [upT_same] at e; cases e; exact ⟨by omega,by simp [WT,Tree.get_set]⟩
 ·rw [upT_other h1] at e
  by_cases h2:x=n
  ·subst h2; rw [upT_same] at e; cases e; exact ⟨by omega,[],0,by simp [Tree.get_set],ent_nil⟩
  ·rw [upT_other h2,I.none hx] at e; cases e
theorem CellsX.look {τ:Gh} {h:Heap} {n c M:Nat} {g:Int→Option Nat} {C:CM} {last:Int} (R:CellsX τ c M g C last) (I:TInv τ h n) (x:Int):h.get c=some (.cells (.lst [.map M,.s (.int .i64 last)]) 2) ∧
  ((C x=none∧lookupW (.int .i64) (.s (.pointer none)) h (.map M) (.s (.int .i64 x)) true=some (.tup [.s (.pointer none),.s (.bool false)])) ∨
  ∃ l d p,C x=some (l,d)∧τ p=some (.cell x l d)∧g x=some p∧lookupW (.int .i64) (.s (.pointer none)) h (.map M) (.s (.int .i64 x)) true=some (.tup [.ptr p 0,.s (.bool true)])):=by
 obtain ⟨h1,h2,h3⟩:=R
 obtain ⟨es,ck,hg,H⟩:=(I M _ h2).2
 have hc:=(I c _ h1).2
 refine ⟨hc,?_⟩
 have e:=look_ent (.s (.pointer none)) hg H x
 rcases h3 x with ⟨a1,a2⟩ | ⟨l,d,p,a1,a2,a3⟩
 ·rw [a2] at e; exact .inl ⟨a1,e⟩
 ·rw [a2] at e; exact .inr ⟨l,d,p,a1,a3,a2,e⟩
theorem written_ok {τ:Gh} {h:Heap} {n p:Nat} {id:Int} {l:List Int} {dr:Bool} (I:TInv τ h n) (hp:τ p=some (.cell id l dr)) (now:Int) :
  CallK CC 116 [.ptr p 0,.s (.int .i64 now)] h n fun v h' n'=>Stay cellFp τ n h h' n':=by
 refine F116_call fun hlt=>?_
 rw [F116_eq]
 obtain ⟨hpn,v,wr,s1,s2,bw,la,hg,hv,m1,m2,n1,n2,by_⟩:=I p _ hp
 simp [cellsAt,hg,storeCells,cellsOwn,Rope.put,ble_dec,Tree.get_set]
 refine CallK.monoN ?_ (beat_ok n1 n2 bw la now _ n)
 rintro _ h1 k1 ⟨⟨a,b,w,rfl,na,nb⟩,hs⟩ hn1
 have hg1:=hs p hpn (by simp)
 rw [Tree.get_set,if_pos rfl] at hg1
 simp [hg1,Rope.put]
 have key:∀ x,x<n→x≠p→(h1.set p (.cells (.lst [v,.s (.int .i64 (wrapF .i64 (wr+1))),.s (.complex .f64 a b),.s (.int .i64 w),.s (.int .i64 now),.s (.bool dr)]) 6)).get x=h.get x:=by
  intro x hx hxp
  rw [Tree.get_set,if_neg hxp,hs x hx (by simp),Tree.get_set,if_neg hxp]
 refine I.same0 hn1 hp (by simp) (fun x hx hxp _=>key x hx hxp) ⟨v,_,a,b,w,now,by rw [Tree.get_set,if_pos rfl],hv.of fun x hx=>⟨key x (I x _ hx).1 (by rintro rfl; rw [hp] at hx; cases hx),hx⟩,m1,m2,na,nb,by_⟩ trivial
theorem CellsX.set {τ:Gh} {c M p:Nat} {g:Int→Option Nat} {C:CM} {last x:Int} {l l':List Int} {d d':Bool} (R:CellsX τ c M g C last) (hp:τ p=some (.cell x l d)) (hg:g x=some p):CellsX (upT τ p (.cell x l' d')) c M g (updG C x (some (l',d'))) last:=by
 obtain ⟨h1,h2,h3⟩:=R
 refine ⟨by rw [upT_other (by rintro rfl; rw [hp] at h1; cases h1)]; exact h1,by rw [upT_other (by rintro rfl; rw [hp] at h2; cases h2)]; exact h2,fun y=>?_⟩
 by_cases hy:y=x
 ·subst hy
  exact .inr ⟨l',d',p,updG_same _ _ _,hg,upT_same _ _ _⟩
 ·rcases h3 y with ⟨a1,a2⟩ | ⟨m,e,q,a1,a2,a3⟩
  ·exact .inl ⟨by rw [updG_other hy]; exact a1,a2⟩
  ·refine .inr ⟨m,e,q,by rw [updG_other hy]; exact a1,a2,?_⟩
   rw [upT_other]
   ·exact a3
   ·rintro rfl; rw [hp] at a3; cases a3; exact hy rfl
theorem updG_id {α:Type} {g:Int→Option α} {x:Int} {v:Option α} (h:g x=v):updG g x v=g:=by
 funext y
 unfold updG
 split
 ·rename_i e; rw [e,h]
 ·rfl
def writeF (C:CM) (x:Int) (b:List Int):CM:=match C x with
 | some (l,d)=>if b.length=l.length then updG C x (some (b,d)) else C
 | none=>C
theorem write_ok {τ:Gh} {h:Heap} {n c b:Nat} {C:CM} {last:Int} (I:TInv τ h n) (R:CellsR τ c C last) (x now:Int) {sl:V} {l:List Int} (hs:BytesAt h b sl l) (hl:Byt l) :
  CallK CC 103 [.ptr c 0,.s (.int .i64 x),sl,.s (.int .i64 now)] h n fun v h' n'=>Goes cellFp τ n h h' n' fun τ'=>CellsR τ' c (writeF C x l) last:=by
 refine F103_call fun hlt=>?_
 rw [F103_eq]
 obtain ⟨M,g,R⟩:=R
 have hln:=hs.len h
 obtain ⟨hg,hx⟩:=R.look I x
 simp [cellsAt,hg]
 rcases hx with ⟨hC,e⟩ | ⟨m,dr,p,hC,hp,hgx,e⟩
 ·simp [e]
  exact ⟨τ,I,Keep.refl _ _ _ _,M,g,by unfold writeF; rw [hC]; exact R⟩
 ·obtain ⟨hpn,v,wr,s1,s2,bw,la,hgp,⟨d,o,cc,op,A,es,rfl,hd,hgd,hA,h2,h3⟩,m1,m2,n1,n2,by_⟩:=I p _ hp
  simp [e,hln,cellsAt,hgp]
  by_cases hne:l.length=m.length
  ·simp [hne]
   refine copy_ok (by omega) hgd (by omega) hs.row fun h1' hg1 hs1=>?_
   have hdp:∀ i,τ p≠some (.part p i):=fun i=>by rw [hp]; simp
   have pd:p≠d:=by rintro rfl; exact hdp 0 hd
   have e2:(bytesV' l).take (min l.length m.length*1)=kV .u8 l:=by rw [kV_u8]; exact List.take_of_length_le (by simp; omega)
   rw [e2] at hg1
   have I1:TInv (upT τ p (.cell x l dr)) h1' n:=I.put (Nat.le_refl n) hp (noPart (by simp)) (noPart (by simp)) (fun y _ hy hyp=>hs1 y (by rintro rfl; exact hyp 0 hd))
    ⟨_,wr,s1,s2,bw,la,by rw [hs1 p pd]; exact hgp,by
     have:=NumsS.put (τ':=upT τ p (.cell x l dr)) (b:=p) (i:=0) (m:=l) (j:=0) (c:=cc) (op:=op) (by rw [upT_other (Ne.symm pd)]; exact hd) hA h2 h3 (by omega) (h':=h1') (es:=es) (by simpa using hg1)
     rw [splice_full hne] at this
     exact this,by omega,by omega,n1,n2,hl⟩
   have K1:Keep cellFp τ (upT τ p (.cell x l dr)) n h h1':=Keep.put I hp (noPart (by simp)) (fun y _ hy hyp=>hs1 y (by rintro rfl; exact hyp 0 hd)) trivial
   refine CallK.monoN ?_ (written_ok I1 (upT_same _ _ _) now)
   intro _ h2' n2 st2 hn2
   refine ⟨_,st2.1,K1.trans (Nat.le_refl _) st2.2,M,g,?_⟩
   have:writeF C x l=updG C x (some (l,dr)):=by unfold writeF; rw [hC]; simp [hne]
   rw [this]
   exact R.set hp hgx
  ·have hne':¬ (l.length:Int)=(m.length:Int):=by omega
   simp [hne']
   exact ⟨τ,I,Keep.refl _ _ _ _,M,g,by unfold writeF; rw [hC]; simp [hne]; exact R⟩
def dropF (C:CM) (x:Int):CM:=match C x with
 | some (l,_)=>updG C x (some (l,true))
 | none=>C
theorem drop_ok {τ:Gh} {h:Heap} {n c:Nat} {C:CM} {last:Int} (I:TInv τ h n) (R:CellsR τ c C last) (x:Int) :
  CallK CC 60 [.ptr c 0,.s (.int .i64 x)] h n fun v h' n'=>Goes cellFp τ n h h' n' fun τ'=>CellsR τ' c (dropF C x) last:=by
 refine F60_call fun hlt=>?_
 rw [F60_eq]
 obtain ⟨M,g,R⟩:=R
 obtain ⟨hg,hx⟩:=R.look I x
 simp [cellsAt,hg]
 rcases hx with ⟨hC,e⟩ | ⟨m,dr,p,hC,hp,hgx,e⟩
 ·simp [e]
  exact ⟨τ,I,Keep.refl _ _ _ _,M,g,by unfold dropF; rw [hC]; exact R⟩
 ·obtain ⟨hpn,v,wr,s1,s2,bw,la,hgp,hv,m1,m2,n1,n2,by_⟩:=I p _ hp
  simp [e,cellsAt,hgp]
  cases dr with
  | true=>simp; exact ⟨τ,I,Keep.refl _ _ _ _,M,g,by unfold dropF; rw [hC]; simp only [updG_id hC]; exact R⟩
  | false=>
   simp [storeCells,cellsOwn,hgp,Rope.put,ble_dec]
   have key:∀ y,y<n→y≠p→(∀ i,τ y≠some (.part p i))→(h.set p (.cells (.lst [v,.s (.int .i64 wr),.s (.complex .f64 s1 s2),.s (.int .i64 bw),.s (.int .i64 la),.s (.bool true)]) 6)).get y=h.get y:=fun y _ hy _=>by rw [Tree.get_set,if_neg hy]
   refine ⟨_,I.put (k':=.cell x m true) (Nat.le_refl _) hp (noPart (by simp)) (noPart (by simp)) key ⟨v,wr,s1,s2,bw,la,by rw [Tree.get_set,if_pos rfl],hv.of fun y hy=>?_,m1,m2,n1,n2,by_⟩,Keep.put I hp (noPart (by simp)) key trivial,M,g,by unfold dropF; rw [hC]; exact R.set hp hgx⟩
   have:y≠p:=by rintro rfl; rw [hp] at hy; cases hy
   exact ⟨by rw [Tree.get_set,if_neg this],by rw [upT_other this]; exact hy⟩
theorem make_ok {τ:Gh} {h:Heap} {n c b:Nat} {C:CM} {last:Int} (I:TInv τ h n) (R:CellsR τ c C last) (h0:0≤last) (h9:last<4611686018427387904)
  {sl:V} {l:List Int} (hb:b<n) (hbt:τ b=none) (hs:BytesAt h b sl l) (hk:CapOk sl) (hl:Byt l) (hl1:1≤l.length) (hl9:l.length≤140737488355000) :
  CallK CC 154 [.ptr c 0,sl] h n fun v h' n'=>Goes cellFp τ n h h' n' fun τ'=>v=.s (.int .i64 (last+1))∧CellsR τ' c (updG C (last+1) (some (l.take 64,false))) (last+1):=by
 refine F154_call fun hlt=>?_
 rw [F154_eq]
 obtain ⟨M,g,R⟩:=R
 have hg:h.get c=some (.cells (.lst [.map M,.s (.int .i64 last)]) 2):=(I c _ R.c0).2
 have e1:wrapF .i64 (last+1)=last+1:=wrapF_i64 (by omega) (by omega)
 have hcn:=(I c _ R.c0).1
 have hMn:=(I M _ R.m0).1
 have hbc:b≠c:=by rintro rfl; rw [R.c0] at hbt; cases hbt
 have hMc:M≠c:=by have h1:=R.m0; have h2:=R.c0; rintro rfl; rw [h1] at h2; cases h2
 have hs1:BytesAt (h.set c (.cells (.lst [.map M,.s (.int .i64 (last+1))]) 2)) b sl l:=hs.of (by rw [Tree.get_set,if_neg hbc])
 rcases hs1 with ⟨rfl,h2,h3⟩ | ⟨o,k,op,A,es,rfl,h2,h3,h4⟩
 ·omega
 have hm:∃ m:Nat,minW (l.length:Int) 64=(m:Int)∧1≤m∧m≤64∧m≤l.length∧m=min l.length 64:=by
  unfold minW
  split
  ·exact ⟨64,rfl,by omega,by omega,by omega,by omega⟩
  ·exact ⟨l.length,rfl,by omega,by omega,by omega,by omega⟩
 obtain ⟨m,em,m1,m2,m3,m4⟩:=hm
 simp [cellsAt,hg,storeCells,cellsOwn,Rope.put,ble_dec,Tree.get_set,e1,em,bounds,bound]
 have hmk:m≤k:=by have:=hk _ _ _ _ _ rfl; omega
 simp only [if_pos hmk,Option.bind_some,Nat.add_zero,Nat.sub_zero,oK_some]
 have hs2:BytesAt (h.set c (.cells (.lst [.map M,.s (.int .i64 (last+1))]) 2)) b (.slice b o m k op) (l.take m):=by
  refine .inr ⟨o,k,op,A,es,by simp [Nat.min_eq_left m3],h2,?_,by simp [Nat.min_eq_left m3]⟩
  have:(A.drop o).take m=((A.drop o).take (l.length*1)).take m:=by rw [List.take_take]; congr 1; omega
  rw [show (l.take m).length*1=m by simp [Nat.min_eq_left m3],this,h3]
  simp [bytesV',List.map_take]
 refine CallK.monoN ?_ (cloneN_ok (by omega) hs2 (by simp; omega) (by simp; omega))
 rintro _ h1 n1 ⟨a,rfl,ha,ha1,hga,hsm1⟩ hn1
 have hc1:h1.get c=some (.cells (.lst [.map M,.s (.int .i64 (last+1))]) 2):=by rw [hsm1 c (by omega) (by simp),Tree.get_set,if_pos rfl]
 simp [hc1]
 refine CallK.monoN ?_ (newBeat_ok h1 n1)
 rintro _ h2' n2 ⟨rfl,hsm2⟩ hn2
 have hc2:h2'.get c=some (.cells (.lst [.map M,.s (.int .i64 (last+1))]) 2):=by rw [hsm2 c (by omega) (by simp),hc1]
 simp [hc2]
 have hmm:min m l.length=m:=Nat.min_eq_left m3
 rw [hmm]
 have hlm:l.take 64=l.take m:=by
  rw [m4]
  by_cases hh:l.length≤64
  ·rw [List.take_of_length_le hh,Nat.min_eq_left hh,List.take_of_length_le (Nat.le_refl _)]
  ·rw [Nat.min_eq_right (by omega)]
 have ltk:(l.take m).length=m:=by simp [hmm]
 generalize hh3:(Tree.set h2' (n+16) (.cells (.lst [.slice a 0 m m true,.s (.int .i64 0),.s (.complex .f64 0 0),.s (.int .i64 0),.s (.int .i64 0),.s (.bool false)]) 6))=h3
 have g3:∀ x,x≠n+16→h3.get x=h2'.get x:=fun x hx=>by rw [← hh3,Tree.get_set,if_neg hx]
 have g3':h3.get (n+16)=some (.cells (.lst [.slice a 0 m m true,.s (.int .i64 0),.s (.complex .f64 0 0),.s (.int .i64 0),.s (.int .i64 0),.s (.bool false)]) 6):=by rw [← hh3,Tree.get_set,if_pos rfl]
 have f3:∀ x,x<n→x≠c→h3.get x=h.get x:=fun x hx hxc=>by rw [g3 x (by omega),hsm2 x (by omega) (by simp),hsm1 x (by omega) (by simp),Tree.get_set,if_neg hxc]
 have f3c:h3.get c=some (.cells (.lst [.map M,.s (.int .i64 (last+1))]) 2):=by rw [g3 c (by omega),hc2]
 obtain ⟨ents,ck,hgM,HM⟩:=(I M _ R.m0).2
 have hgM3:=(f3 M hMn hMc).trans hgM
 obtain ⟨es',ck',eu,HU⟩:=update_ent hgM3 HM (last+1) (n+16)
 have c5:(h3.set M (.map es' ck')).get c=some (.cells (.lst [.map M,.s (.int .i64 (last+1))]) 2):=by rw [Tree.get_set,if_neg (Ne.symm hMc),f3c]
 simp [eu,c5]
 let τ1:=upT τ c (.cells M (last+1))
 let τ2:=upT τ1 M (.cmap (updG g (last+1) (some (n+16))))
 let τ3:=upT τ2 a (.part (n+16) 0)
 let τ4:=upT τ3 (n+16) (.cell (last+1) (l.take m) false)
 have hpc:∀ x i,τ c≠some (.part x i):=fun x i=>by rw [R.c0]; simp
 have hpM:∀ x i,τ M≠some (.part x i):=fun x i=>by rw [R.m0]; simp
 have nP:∀ {y k} x i,τ y=some k→(∀ z j,k≠.part z j)→τ y≠some (.part x i):=fun x i e h e'=>h x i (by rw [e] at e'; exact Option.some.inj e')
 have I1:TInv τ1 (h.set c (.cells (.lst [.map M,.s (.int .i64 (last+1))]) 2)) n:=I.put (Nat.le_refl _) R.c0 (noPart (by simp)) (noPart (by simp)) (fun x _ hx _=>by rw [Tree.get_set,if_neg hx]) (by show Tree.get _ c=_; rw [Tree.get_set,if_pos rfl])
 have tM1:τ1 M=some (.cmap g):=by show upT τ c _ M=_; rw [upT_other hMc]; exact R.m0
 have I2:TInv τ2 ((h.set c (.cells (.lst [.map M,.s (.int .i64 (last+1))]) 2)).set M (.map es' ck')) n:=I1.put (Nat.le_refl _) tM1 (noPart (by simp)) (noPart (by simp)) (fun x _ hx _=>by rw [Tree.get_set,if_neg hx]) ⟨es',ck',by rw [Tree.get_set,if_pos rfl],HU⟩
 have f5:∀ x,x<n→(h3.set M (.map es' ck')).get x=((h.set c (.cells (.lst [.map M,.s (.int .i64 (last+1))]) 2)).set M (.map es' ck')).get x:=fun x hx=>by
  rw [Tree.get_set,Tree.get_set]
  by_cases hxM:x=M
  ·rw [if_pos hxM,if_pos hxM]
  ·rw [if_neg hxM,if_neg hxM,g3 x (by omega),hsm2 x (by omega) (by simp),hsm1 x (by omega) (by simp)]
 have t4:∀ x,x<n→τ4 x=τ2 x:=fun x hx=>by show upT (upT τ2 a _) (n+16) _ x=_; rw [upT_other (by omega),upT_other (by omega)]
 have I4:TInv τ4 (h3.set M (.map es' ck')) n2:=by
  refine I2.news (by omega) t4 (fun x hx _=>f5 x hx) fun x k e hx=>?_
  have e':upT (upT τ2 a (.part (n+16) 0)) (n+16) (.cell (last+1) (l.take m) false) x=some k:=e
  by_cases h1:x=n+16
  ·subst h1; rw [upT_same] at e'; cases e'
   refine ⟨by omega,_,0,0,0,0,0,by rw [Tree.get_set,if_neg (by omega)]; exact g3',⟨a,0,m,true,bytesV' (l.take m),1,by rw [ltk],?_,?_,?_,by rw [ltk]; exact Nat.le_refl _,by simp⟩,by omega,by omega,rfl,rfl,fun y hy=>hl y (List.mem_of_mem_take hy)⟩
   ·show upT (upT τ2 a _) (n+16) _ a=_; rw [upT_other (by omega),upT_same]
   ·rw [Tree.get_set,if_neg (by omega),g3 a (by omega),hsm2 a (by omega) (by simp),hga]
   ·rw [kV_u8]; exact List.take_of_length_le (by simp)
  ·rw [upT_other h1] at e'
   by_cases h2:x=a
   ·subst h2; rw [upT_same] at e'; cases e'; exact ⟨by omega,trivial⟩
   ·rw [upT_other h2,I2.none hx] at e'; cases e'
 have t2:∀ x,x≠c→x≠M→τ2 x=τ x:=fun x h1 h2=>by show upT (upT τ c _) M _ x=_; rw [upT_other h2,upT_other h1]
 refine ⟨τ4,I4,⟨fun x k hx e hf=>?_,fun x hx e=>?_,fun y k x hy hx e hk hf hp=>?_⟩,M,updG g (last+1) (some (n+16)),⟨?_,?_,fun y=>?_⟩⟩
 ·rw [t4 x hx]
  have hxc:x≠c:=by
   rintro rfl; rw [R.c0] at e; cases e
   rcases hf with hf | ⟨_,_,hf⟩
   ·exact hf trivial
   ·cases hf
  have hxM:x≠M:=by
   rintro rfl; rw [R.m0] at e; cases e
   rcases hf with hf | ⟨_,_,hf⟩
   ·exact hf trivial
   ·cases hf
  rw [t2 x hxc hxM]; exact e
 ·have hxc:x≠c:=by rintro rfl; rw [R.c0] at e; cases e
  have hxM:x≠M:=by rintro rfl; rw [R.m0] at e; cases e
  exact ⟨by rw [t4 x hx,t2 x hxc hxM]; exact e,by rw [Tree.get_set,if_neg hxM]; exact f3 x hx hxc⟩
 ·have hne:x≠c∧x≠M:=by
   rcases hp with rfl | ⟨i,hp⟩
   ·exact ⟨fun h=>(by rw [h,R.c0] at e; cases e; exact hf trivial),fun h=>(by rw [h,R.m0] at e; cases e; exact hf trivial)⟩
   ·exact ⟨fun h=>(by rw [h,R.c0] at hp; cases hp),fun h=>(by rw [h,R.m0] at hp; cases hp)⟩
  rw [Tree.get_set,if_neg hne.2]; exact f3 x hx hne.1
 ·rw [t4 c hcn]; show upT (upT τ c _) M _ c=_; rw [upT_other (Ne.symm hMc),upT_same]
 ·rw [t4 M hMn]; exact upT_same _ _ _
 ·by_cases hy:y=last+1
  ·subst hy
   refine .inr ⟨l.take m,false,n+16,by rw [updG_same,hlm],by rw [updG_same],upT_same _ _ _⟩
  ·rcases R.all y with ⟨a1,a2⟩ | ⟨m',e,q,a1,a2,a3⟩
   ·exact .inl ⟨by rw [updG_other hy]; exact a1,by rw [updG_other hy]; exact a2⟩
   ·refine .inr ⟨m',e,q,by rw [updG_other hy]; exact a1,by rw [updG_other hy]; exact a2,?_⟩
    rw [t4 q (I q _ a3).1,t2 q (by rintro rfl; rw [R.c0] at a3; cases a3) (by rintro rfl; rw [R.m0] at a3; cases a3)]
    exact a3
end Go.Ev
end
section
namespace Go.Ev
open Proofs
set_option maxRecDepth 20000
def intsV' (l:List Int):List V:=l.map fun x=>.s (.int .i64 x)
@[simp] theorem intsV'_length (l:List Int):(intsV' l).length=l.length:=by simp [intsV']
@[simp] theorem intsV'_get (l:List Int) (i:Nat) (h:i<(intsV' l).length):(intsV' l)[i]'h=.s (.int .i64 (l[i]'(by simpa using h))):=by simp [intsV']
theorem index_loop {d:Nat} {l:List Int} (x:Int) {h:Heap} (hg:h.get d=some (.cells (.lst (intsV' l)) 1)) (hl:l.length≤1000000) {Q:X→St→Prop}
  (hQ0:∀ n s,x ∉ l→F208_L10100 (.slice d 0 l.length l.length false) (.s (.int .i64 x)) (.s (.int .i64 l.length)) (.s (.int .i64 l.length)) h n s→Q (.exit 0) s)
  (hQ1:∀ n (L:List V) (k:Nat),x∈l→L[4]? = some (.s (.int .i64 k))→Q .ret ⟨mkTm L,h,n,[]⟩) :
  ∀ m s,(∃ i n,m=l.length-i∧i≤l.length∧(∀ j,j<i→l[j]?≠some x)∧F208_L10100 (.slice d 0 l.length l.length false) (.s (.int .i64 x)) (.s (.int .i64 l.length)) (.s (.int .i64 i)) h n s) →
   LoopK CC none (subC [1,0,1,0,0] (bodyOf Tryz.f208)) s Q:=by
 refine loopH CCok _ ?_
 rintro m s ⟨i,n,hm,hi,hno,hs⟩ hlt
 obtain ⟨g,rfl⟩:=hs
 rw [F208_b10100]
 by_cases hi':i<l.length
 ·have e3:wrapF .i64 ((i:Int)+1)=((i+1:Nat):Int):=by rw [wrapF_i64 (by omega) (by omega)]; rfl
  simp [hi',cellsAt,hg,blt_dec]
  by_cases hx:x=l[i]
  ·have hm:x∈l:=by rw [hx]; exact List.getElem_mem hi'
   simp [← hx,roundQ]
   exact hQ1 _ _ i hm rfl
  ·simp [hx]
   exact ⟨l.length-(i+1),h,by omega,fun hok b o hb=>⟨o,hb,hok b o hb⟩,i+1,rfl,by omega,fun j hj=>by
    by_cases e:j=i
    ·subst e; rw [List.getElem?_eq_getElem hi']; simpa using fun h=>hx h.symm
    ·exact hno j (by omega),_,by rw [e3]; exact F208_L10100_of⟩
 ·have:i=l.length:=by omega
  subst this
  simp [roundQ]
  exact hQ0 _ _ (fun h=>by obtain ⟨j,hj⟩:=List.mem_iff_getElem?.1 h; exact hno j (List.getElem?_eq_some_iff.1 hj).1 hj) F208_L10100_of
theorem index_ok {d:Nat} {l:List Int} (x:Int) {h:Heap} {n:Nat} (hg:h.get d=some (.cells (.lst (intsV' l)) 1)) (hl:l.length≤1000000) :
  CallK CC 208 [.slice d 0 l.length l.length false,.s (.int .i64 x)] h n fun v h' n'=>(∃ k:Int,v=.s (.int .i64 k)∧(0≤k↔x∈l))∧h'=h:=by
 refine F208_call fun hlt=>?_
 rw [F208_eq]
 simp
 refine index_loop x hg hl ?_ ?_ _ _ ⟨0,n,rfl,by omega,fun j hj=>by omega,F208_L10100_of⟩
 ·intro n' s hx hs
  obtain ⟨g,rfl⟩:=hs
  rw [F208_r10100_0]
  exact ⟨⟨-1,rfl,⟨fun h=>by omega,fun h=>absurd h hx⟩⟩,rfl⟩
 ·intro n' L k hx hL
  simp [resume,retW,dropDefs,hL]
  exact hx
theorem contains_ok {d:Nat} {l:List Int} (x:Int) {h:Heap} {n:Nat} (hg:h.get d=some (.cells (.lst (intsV' l)) 1)) (hl:l.length≤1000000) :
  CallK CC 162 [.slice d 0 l.length l.length false,.s (.int .i64 x)] h n fun v h' n'=>(∃ k:Bool,v=.s (.bool k)∧(k=true↔x∈l))∧h'=h:=by
 refine F162_call fun hlt=>?_
 rw [F162_eq]
 refine CallK.monoN ?_ (index_ok x hg hl)
 rintro _ h1 n1 ⟨⟨k,rfl,hk⟩,rfl⟩ hn1
 simp
 exact hk
def InC (C:CM) (x off size:Int):Prop:=∃ l d,C x=some (l,d)∧(size=1∨size=2∨size=4∨size=8)∧0≤off∧off+size≤(l.length:Nat)
def PartC (τ:Gh) (g:Int→Option Nat) (h:Heap) (C:CM) (x off size:Int) (v:V):Prop:=(v=.tup [.s (.pointer none),.s (.slice none 0 0),.s (.bool false)]∧¬ InC C x off size) ∨
 ∃ p l dr,∃ a z d o c k:Nat,∃ op A es,v=.tup [.ptr p 0,.slice d (o+a) z k op,.s (.bool true)]∧C x=some (l,dr)∧off=(a:Nat)∧size=(z:Nat)∧InC C x off size∧a+z≤l.length∧1≤z∧z≤8∧z≤k∧τ p=some (.cell x l dr)∧g x=some p ∧
  τ d=some (.part p 0)∧h.get d=some (.cells (.lst A) es)∧(A.drop o).take l.length=kV .u8 l∧o+l.length≤A.length∧l.length≤c∧∃ R,h.get p=some (.cells (.lst (.slice d o l.length c op::R)) 6)
theorem partC_ok {τ:Gh} {h:Heap} {n c M:Nat} {g:Int→Option Nat} {C:CM} {last:Int} (I:TInv τ h n) (R:CellsX τ c M g C last) (x off size:Int) :
  CallK CC 115 [.ptr c 0,.s (.int .i64 x),.s (.int .i64 off),.s (.int .i64 size)] h n fun v h' n'=>PartC τ g h C x off size v∧Same n [] h h':=by
 refine F115_call fun hlt=>?_
 rw [F115_eq]
 obtain ⟨hg,hx⟩:=R.look I x
 have hcn:=(I c _ R.c0).1
 simp [cellsAt,hg]
 rcases hx with ⟨hC,e⟩ | ⟨l,dr,p,hC,hp,hgx,e⟩
 ·simp [e]
  exact ⟨.inl ⟨rfl,fun ⟨l,d,h1,_⟩=>by rw [hC] at h1; cases h1⟩,Same.refl _ _ _⟩
 ·obtain ⟨hpn,v,wr,s1,s2,bw,la,hgp,⟨d,o,cc,op,A,es,rfl,hd,hgd,hA,h2,h3⟩,m1,m2,n1,n2,by_⟩:=I p _ hp
  simp [e]
  refine CallK.monoN ?_ (contains_ok (l:=[1,2,4,8]) size (by simp [Tree.get_set,intsV']) (by decide))
  rintro _ h1' k1 ⟨⟨b,rfl,hb⟩,rfl⟩ hn1
  have hsm:Same n [] h (h.set n (.cells (.lst [.s (.int .i64 1),.s (.int .i64 2),.s (.int .i64 4),.s (.int .i64 8)]) 1)):=Same.new _ _ _ _
  have no:∀ {P:Prop},(∀ m d,(m,d)=(l,dr)→(size=1∨size=2∨size=4∨size=8)→0≤off→off+size≤(m.length:Nat)→False)→¬ InC C x off size:=fun H ⟨m,e,q1,q2,q3,q4⟩=>by
   rw [hC] at q1
   exact H m e (Option.some.inj q1).symm q2 q3 q4
  cases b with
  | false=>
   simp
   exact ⟨.inl ⟨rfl,no (P:=True) fun m e _ q2 _ _=>by have:=hb.2 (by simpa using q2); cases this⟩,hsm⟩
  | true=>
   have hsz:=hb.1 rfl
   simp
   by_cases ho:off<0
   ·simp [ho]; exact ⟨.inl ⟨rfl,no (P:=True) fun m e _ _ q3 _=>by omega⟩,hsm⟩
   ·obtain ⟨a,rfl⟩:∃ a:Nat,off=a:=⟨off.toNat,by omega⟩
    have hpn':p≠n:=by omega
    have ha:¬ ((a:Int)<0):=by omega
    obtain ⟨z,rfl,z1,z8⟩:∃ z:Nat,size=z∧1≤z∧z≤8:=by
     simp at hsz
     rcases hsz with rfl | rfl | rfl | rfl
     ·exact ⟨1,rfl,by omega,by omega⟩
     ·exact ⟨2,rfl,by omega,by omega⟩
     ·exact ⟨4,rfl,by omega,by omega⟩
     ·exact ⟨8,rfl,by omega,by omega⟩
    simp [ha,cellsAt,Tree.get_set,hpn',hgp]
    by_cases am:l.length<a
    ·simp [am]; exact ⟨.inl ⟨rfl,no (P:=True) fun m e q _ _ q4=>by cases q; omega⟩,hsm⟩
    ·have es':wrapF .i64 ((l.length:Int)-(a:Int))=((l.length-a:Nat):Int):=by rw [wrapF_i64 (by omega) (by omega)]; omega
     simp [am,cellsAt,Tree.get_set,hpn',hgp,es']
     by_cases zm:l.length-a<z
     ·simp [zm]; exact ⟨.inl ⟨rfl,no (P:=True) fun m e q _ _ q4=>by cases q; omega⟩,hsm⟩
     ·obtain ⟨y,hy⟩:∃ y:Nat,y=a+z:=⟨_,rfl⟩
      have e2:wrapF .i64 ((a:Int)+(z:Int))=(y:Int):=by rw [wrapF_i64 (by omega) (by omega)]; omega
      simp [zm,e2,bounds,bound,ble_dec,show y≤cc by omega,show a≤y by omega]
      refine ⟨.inr ⟨p,l,dr,a,z,d,o,cc,cc-a,op,A,es,by rw [show y-a=z by omega],hC,rfl,rfl,⟨l,dr,hC,by simpa using hsz,by omega,by omega⟩,by omega,z1,z8,by omega,hp,hgx,hd,hgd,hA,h3,h2,_,hgp⟩,hsm⟩
def bytesOf (v:Int) (z:Nat):List Int:=(List.range z).map fun i=>wrapF .u8 (shrI .u64 v ((8*i:Nat):Int))
theorem bytesOf_succ (v:Int) (z:Nat):bytesOf v (z+1)=bytesOf v z++[wrapF .u8 (shrI .u64 v ((8*z:Nat):Int))]:=by simp [bytesOf,List.range_succ]
@[simp] theorem bytesOf_length (v:Int) (z:Nat):(bytesOf v z).length=z:=by simp [bytesOf]
theorem splice_more {α:Type} {l m:List α} {a:Nat} {w:α} (h:a+m.length+1≤l.length):splice (splice l a m) (a+m.length) [w]=splice l a (m++[w]):=by
 have hl:(splice l a m).length=l.length:=splice_length (by omega)
 apply List.ext_getElem?
 intro i
 rw [splice_at (by rw [hl]; exact h),splice_at (by omega),splice_at (by simp; omega)]
 by_cases h1:a≤i∧i<a+m.length
 ·rw [if_neg (by simp; omega),if_pos h1,if_pos (by simp; omega),List.getElem?_append_left (by omega)]
 ·by_cases h2:i=a+m.length
  ·subst h2
   rw [if_pos (by simp),if_pos (by simp),List.getElem?_append_right (by omega)]
   congr 1; omega
  ·rw [if_neg (by simp; omega),if_neg h1,if_neg (by simp; omega)]
theorem wrap_u8 (x:Int):0≤wrapF .u8 x∧wrapF .u8 x<256:=by
 unfold wrapF
 simp only [p2,IntKind.signed,cond_false]
 exact ⟨Int.emod_nonneg x (by decide),Int.emod_lt_of_pos x (by decide)⟩
theorem bytesOf_byt (v:Int) (z:Nat):Byt (bytesOf v z):=fun x hx=>by
 obtain ⟨i,_,rfl⟩:=List.mem_map.1 hx
 exact wrap_u8 _
theorem store_loop {d o sz c es:Nat} {op:Bool} {A:List V} (hA:o+sz≤A.length) (h8:sz≤8) (v:Int) {t5 t13:V} {Q:X→St→Prop} {n0:Nat} {h0:Heap}
  (hQ:∀ h n s,F62_L1110100 (.s (.int .u64 v)) t5 t13 (.slice d o sz c op) (.s (.int .i64 sz)) (.s (.int .i64 sz)) h n s→n0≤n→h.get d=some (.cells (.lst (splice A o (kV .u8 (bytesOf v sz)))) es)→(∀ x,x≠d→h.get x=h0.get x)→Q (.exit 0) s) :
  ∀ m s,(∃ i h n,m=sz-i∧i≤sz∧F62_L1110100 (.s (.int .u64 v)) t5 t13 (.slice d o sz c op) (.s (.int .i64 sz)) (.s (.int .i64 i)) h n s∧n0≤n∧h.get d=some (.cells (.lst (splice A o (kV .u8 (bytesOf v i)))) es)∧(∀ x,x≠d→h.get x=h0.get x)) →
   LoopK CC none (subC [1,1,1,0,1,0,0] (bodyOf Tryz.f62)) s Q:=by
 refine loopH CCok _ ?_
 rintro m s ⟨i,h,n,hm,hi,hs,hn,hgd,hsame⟩ hlt
 obtain ⟨g,rfl⟩:=hs
 rw [F62_b1110100]
 by_cases hi':i<sz
 ·have e3:wrapF .i64 ((i:Int)+1)=((i+1:Nat):Int):=by rw [wrapF_i64 (by omega) (by omega)]; rfl
  have e4:wrapF .i64 (8*(i:Int))=((8*i:Nat):Int):=by rw [wrapF_i64 (by omega) (by omega)]; rfl
  have e5:=bin_shr (C:=CC) 27 false .u64 .i64 v (b:=((8*i:Nat):Int)) (by omega)
  simp [hi',e4]
  rw [show (8*(i:Int))=((8*i:Nat):Int) by simp]
  simp only [e5,oK_some]
  have eL:splice (splice A o (kV .u8 (bytesOf v i))) (o+i) [.s (.int .u8 (wrapF .u8 (shrI .u64 v ((8*i:Nat):Int))))]=splice A o (kV .u8 (bytesOf v (i+1))):=by
   have:=splice_more (l:=A) (a:=o) (m:=kV .u8 (bytesOf v i)) (w:=.s (.int .u8 (wrapF .u8 (shrI .u64 v ((8*i:Nat):Int))))) (by simp; omega)
   rw [kV_length,bytesOf_length] at this
   rw [this,bytesOf_succ]; simp [kV]
  generalize hw:(V.s (Value.int IntKind.u8 (wrapF IntKind.u8 (shrI IntKind.u64 v ((8*i:Nat):Int)))))=w at eL
  have hl:(splice A o (kV .u8 (bytesOf v i))).length=A.length:=splice_length (by simp; omega)
  have e6:storeCells h d (o+i) (.one w)=some (h.set d (.cells (.lst (splice (splice A o (kV .u8 (bytesOf v i))) (o+i) [w])) es)):=storeCells_lst hgd (by show o+i+1≤_; rw [hl]; omega)
  rw [eL] at e6
  simp [hi',blt_dec]
  rw [show (8*(i:Int))=((8*i:Nat):Int) by simp,hw,e6]
  simp [roundQ]
  exact ⟨sz-(i+1),by omega,h.set d (.cells (.lst (splice A o (kV .u8 (bytesOf v (i+1))))) es),fun hok b o hb=>⟨o,hb,hok b o hb⟩,i+1,rfl,by omega,_,n,by rw [e3]; exact F62_L1110100_of,hn,by rw [Tree.get_set,if_pos rfl],fun x hx=>by rw [Tree.get_set,if_neg hx]; exact hsame x hx⟩
 ·have:i=sz:=by omega
  subst this
  simp [roundQ]
  exact hQ h n _ F62_L1110100_of hn hgd hsame
def storeF (C:CM) (x off size v:Int):CM:=match C x with
 | some (l,d)=>updG C x (some (splice l off.toNat (bytesOf v size.toNat),d))
 | none=>C
theorem storeC_ok {τ:Gh} {h:Heap} {n c:Nat} {C:CM} {last:Int} (I:TInv τ h n) (R:CellsR τ c C last) (x off size v now:Int) :
  CallK CC 62 [.ptr c 0,.s (.int .i64 x),.s (.int .i64 off),.s (.int .i64 size),.s (.int .u64 v),.s (.int .i64 now)] h n fun r h' n'=>Goes cellFp τ n h h' n' fun τ'=>
   (r=.s (.bool false)∧¬ InC C x off size∧CellsR τ' c C last)∨(r=.s (.bool true)∧InC C x off size∧CellsR τ' c (storeF C x off size v) last):=by
 refine F62_call fun hlt=>?_
 rw [F62_eq]
 obtain ⟨M,g,R⟩:=R
 refine CallK.monoN ?_ (partC_ok I R x off size)
 rintro w h1 n1 ⟨hp,hs1⟩ hn1
 rcases hp with ⟨rfl,hno⟩ | ⟨p,l,dr,a,z,d,o,cc,k,op,A,es,rfl,hC,rfl,rfl,hin,q1,q2,q3,q4,hp,hgx,hd,hgd,hA,h3,h2,Rs,hgp⟩
 ·simp; exact ⟨τ,I.same hs1 hn1,Keep.of_same hs1,hno,M,g,R⟩
 ·simp
  have hdn:=(I d _ hd).1
  have I1:=I.same hs1 hn1
  have hgd1:=(hs1 d hdn (by simp)).trans hgd
  have hgp1:=(hs1 p (I p _ hp).1 (by simp)).trans hgp
  refine store_loop (n0:=n1) (h0:=h1) (A:=A) (es:=es) (by omega) q3 v ?_ _ _ ⟨0,h1,n1,rfl,by omega,F62_L1110100_of,by omega,by rw [hgd1]; simp [bytesOf,kV,splice],fun _ _=>rfl⟩
  intro h4 n4 s hs hn4 hgd4 hsame4
  obtain ⟨g',rfl⟩:=hs
  rw [F62_r1110100_0]
  obtain ⟨hpn,v',wr,s1,s2,bw,la,hgp',hv',m1,m2,nn1,nn2,by_⟩:=I1 p _ hp
  have pd:p≠d:=by rintro rfl; rw [hp] at hd; cases hd
  rw [hgp1] at hgp'
  injection hgp' with e0
  injection e0 with e1 _
  injection e1 with e2
  injection e2 with e3 e4
  have sp:∀ y,y<n1→y≠p→(∀ i,τ y≠some (.part p i))→h4.get y=h1.get y:=fun y _ _ hyp=>hsame4 y (by rintro rfl; exact hyp 0 hd)
  have hsl:(splice l a (bytesOf v z)).length=l.length:=splice_length (by simp; omega)
  have I4:TInv (upT τ p (.cell x (splice l a (bytesOf v z)) dr)) h4 n4:=I1.put hn4 hp (noPart (by simp)) (noPart (by simp)) sp
   ⟨_,wr,s1,s2,bw,la,by rw [hsame4 p pd,hgp1,← e4],by
    have:=NumsS.put (τ':=upT τ p (.cell x (splice l a (bytesOf v z)) dr)) (b:=p) (i:=0) (l:=l) (m:=bytesOf v z) (j:=a) (c:=cc) (op:=op) (by rw [upT_other (Ne.symm pd)]; exact hd) hA h2 h3 (by simp; omega) hgd4
    exact this,by rw [hsl]; exact m1,by rw [hsl]; exact m2,nn1,nn2,by_.splice (bytesOf_byt _ _)⟩
  have K4:Keep cellFp τ (upT τ p (.cell x (splice l a (bytesOf v z)) dr)) n1 h1 h4:=Keep.put I1 hp (noPart (by simp)) sp trivial
  refine CallK.monoN ?_ (written_ok I4 (upT_same _ _ _) now)
  intro _ h5 n5 st5 hn5
  refine ⟨_,st5.1,(Keep.of_same hs1).trans hn1 (K4.trans hn4 st5.2),.inr ⟨rfl,hin,M,g,?_⟩⟩
  have:storeF C x (a:Int) (z:Int) v=updG C x (some (splice l a (bytesOf v z),dr)):=by unfold storeF; rw [hC]; simp
  rw [this]
  exact R.set hp hgx
end Go.Ev
end
section
namespace Go.Ev
open Proofs
set_option maxRecDepth 20000
def loadF:List Int→Nat→Int→Int
 | [],_,v=>v
 | y::l,i,v=>loadF l (i+1) (bitsI .or .u64 v (shlI .u64 (wrapF .u64 y) ((8*i:Nat):Int)))
theorem load_loop {d:Nat} {sl t12:V} {l:List Int} {N:Nat} (hN:l.length=N) (h8:N≤8) {h:Heap} (hs:BytesAt h d sl l) {Q:X→St→Prop}
  (hQ:∀ n s t27,F64_L1110100 t12 (.s (.int .u64 (loadF l 0 0))) sl (.s (.int .i64 (N:Nat))) t27 h n s→Q (.exit 0) s) :
  ∀ m s,(∃ i v n,m=N-i∧i≤N∧loadF (l.drop i) i v=loadF l 0 0∧F64_L1110100 t12 (.s (.int .u64 v)) sl (.s (.int .i64 (N:Nat))) (.s (.int .i64 i)) h n s) →
   LoopK CC none (subC [1,1,1,0,1,0,0] (bodyOf Tryz.f64)) s Q:=by
 refine loopH CCok _ ?_
 rintro m s ⟨i,v,n,hm,hi,hv,hs'⟩ hlt
 obtain ⟨g,rfl⟩:=hs'
 rw [F64_b1110100]
 by_cases hi':i<N
 ·have e3:wrapF .i64 ((i:Int)+1)=((i+1:Nat):Int):=by rw [wrapF_i64 (by omega) (by omega)]; rfl
  obtain ⟨k,hk⟩:∃ k,k=8*i:=⟨_,rfl⟩
  have e4:wrapF .i64 (8*(i:Int))=(k:Int):=by rw [wrapF_i64 (by omega) (by omega)]; omega
  obtain ⟨p,p1,p2⟩:=hs.ix (show i<l.length by omega)
  have p1':indexAddr CC 30 sl (.s (.int .i64 i))=some (.ptr d p):=p1
  have e5:∀ y:Int,binop CC .shl 27 false (.s (.int .u64 y)) (.s (.int .i64 (k:Int)))=some (.s (.int .u64 (shlI .u64 y (k:Int)))):=fun y=>bin_shl _ _ _ _ _ (by omega)
  simp [hi',p1',p2,e4,e5,roundQ]
  refine ⟨N-(i+1),by omega,h,fun hok b o hb=>⟨o,hb,hok b o hb⟩,i+1,rfl,by omega,_,?_,_,by rw [e3]; exact F64_L1110100_of⟩
  rw [← hv,List.drop_eq_getElem_cons (show i<l.length by omega)]
  show _=loadF (l.drop (i+1)) (i+1) _
  rw [hk]
 ·have:i=N:=by omega
  subst this
  rw [← hN] at hv ⊢
  simp [loadF] at hv
  subst hv
  simp [roundQ]
  rw [hN]
  exact hQ n _ _ F64_L1110100_of
def LoadP (C : CM) (x off size : Int) (r : V) : Prop := (r = .tup [.s (.int .u64 0), .s (.bool false)] ∧ ¬ InC C x off size) ∨
      ∃ l d, C x = some (l, d) ∧ InC C x off size ∧ r = .tup [.s (.int .u64 (loadF ((l.drop off.toNat).take size.toNat) 0 0)), .s (.bool true)]
theorem loadC_ok {τ:Gh} {h:Heap} {n c:Nat} {C:CM} {last:Int} (I:TInv τ h n) (R:CellsR τ c C last) (x off size:Int) :
  CallK CC 64 [.ptr c 0,.s (.int .i64 x),.s (.int .i64 off),.s (.int .i64 size)] h n fun r h' n'=>LoadP C x off size r∧Same n [] h h':=by
 refine F64_call fun hlt=>?_
 rw [F64_eq]
 obtain ⟨M,g,R⟩:=R
 refine CallK.monoN ?_ (partC_ok I R x off size)
 rintro w h1 n1 ⟨hp,hs1⟩ hn1
 rcases hp with ⟨rfl,hno⟩ | ⟨p,l,dr,a,z,d,o,cc,k,op,A,es,rfl,hC,rfl,rfl,hin,q1,q2,q3,q4,hp,hgx,hd,hgd,hA,h3,h2,Rs,hgp⟩
 ·simp
  refine load_loop (d:=c) (l:=[]) (N:=0) rfl (by omega) (.inl ⟨rfl,rfl,rfl⟩) ?_ _ _ ⟨0,0,n1,rfl,by omega,rfl,F64_L1110100_of⟩
  intro n' s t27 hs
  obtain ⟨g',rfl⟩:=hs
  rw [F64_r1110100_0]
  exact ⟨.inl ⟨rfl,hno⟩,hs1⟩
 ·have hdn:=(I d _ hd).1
  have hgd1:=(hs1 d hdn (by simp)).trans hgd
  have hz:((l.drop a).take z).length=z:=by simp; omega
  have hb:BytesAt h1 d (.slice d (o+a) z k op) ((l.drop a).take z):=by
   refine .inr ⟨o+a,k,op,A,es,by rw [hz],by simp [cellsAt,hgd1],?_,by simp⟩
   rw [hz,Nat.mul_one]
   have:(A.drop (o+a)).take z=(((A.drop o).take l.length).drop a).take z:=by rw [List.drop_take,List.take_take,List.drop_drop]; congr 1; omega
   rw [this,hA]; simp [kV,bytesV',List.map_take,List.map_drop]
  simp
  refine load_loop (t12:=.s (.bool true)) (sl:=.slice d (o+a) z k op) hz q3 hb ?_ _ _ ⟨0,0,n1,rfl,by omega,rfl,F64_L1110100_of⟩
  intro n' s t27 hs
  obtain ⟨g',rfl⟩:=hs
  rw [F64_r1110100_0]
  exact ⟨.inr ⟨l,dr,hC,hin,rfl⟩,hs1⟩
def NewB (n:Nat) (h':Heap) (n':Nat) (v:V) (l:List Int):Prop:=(v=.s (.slice none 0 0)∧l=[])∨∃ a,v=.slice a 0 l.length l.length true∧n≤a∧a<n'∧h'.get a=some (.cells (.lst (bytesV' l)) 1)∧1≤l.length
theorem NewB.at {n n':Nat} {h':Heap} {v:V} {l:List Int} (H:NewB n h' n' v l) (d:Nat):∃ a,BytesAt h' a v l∧(a=d∨(n≤a∧a<n')):=by
 rcases H with ⟨rfl,rfl⟩ | ⟨a,rfl,h1,h2,h3,h4⟩
 ·exact ⟨d,.inl ⟨rfl,rfl,rfl⟩,.inl rfl⟩
 ·exact ⟨a,.inr ⟨0,l.length,true,_,1,rfl,by simp [cellsAt,h3]; rfl,by simpa using List.take_of_length_le (by simp [bytesV']),by simp [bytesV']⟩,.inr ⟨h1,h2⟩⟩
def bytesF (C:CM) (x:Int):List Int:=match C x with
 | some (l,_)=>l
 | none=>[]
theorem bytesC_ok {τ:Gh} {h:Heap} {n c:Nat} {C:CM} {last:Int} (I:TInv τ h n) (R:CellsR τ c C last) (x:Int) :
  CallK CC 56 [.ptr c 0,.s (.int .i64 x)] h n fun v h' n'=>NewB n h' n' v (bytesF C x)∧Same n [] h h':=by
 refine F56_call fun hlt=>?_
 rw [F56_eq]
 obtain ⟨M,g,R⟩:=R
 obtain ⟨hg,hx⟩:=R.look I x
 simp [cellsAt,hg]
 rcases hx with ⟨hC,e⟩ | ⟨l,dr,p,hC,hp,hgx,e⟩
 ·simp [e]
  exact ⟨.inl ⟨rfl,by unfold bytesF; rw [hC]⟩,Same.refl _ _ _⟩
 ·obtain ⟨hpn,v,wr,s1,s2,bw,la,hgp,hv,m1,m2,n1,n2,by_⟩:=I p _ hp
  have hv':=hv
  obtain ⟨d,hd,hb⟩:=hv.bytes
  obtain ⟨_,_,_,_,_,_,rfl,_⟩:=hv'
  simp [e,cellsAt,hgp]
  refine CallK.monoN ?_ (cloneN_ok (I d _ hd).1 hb m1 (by omega))
  rintro v' h1 n1' ⟨a,rfl,a1,a2,a3,a4⟩ hn1
  have:bytesF C x=l:=by unfold bytesF; rw [hC]
  rw [this]
  exact ⟨.inr ⟨a,rfl,a1,a2,a3,m1⟩,a4⟩
theorem sizeC_ok {τ:Gh} {h:Heap} {n c:Nat} {C:CM} {last:Int} (I:TInv τ h n) (R:CellsR τ c C last) (x:Int) :
  CallK CC 65 [.ptr c 0,.s (.int .i64 x)] h n fun v h' n'=>v=.s (.int .i64 (bytesF C x).length)∧Same n [] h h':=by
 refine F65_call fun hlt=>?_
 rw [F65_eq]
 refine CallK.monoN ?_ (bytesC_ok I R x)
 rintro v h1 n1 ⟨hb,hs⟩ hn1
 obtain ⟨a,ha,_⟩:=hb.at 0
 have e:lenV CC h1 30 v=some (.s (.int .i64 (bytesF C x).length)):=ha.len h1
 simp [e]
 exact hs
def dropB (C:CM) (x:Int):Bool:=match C x with
 | some (_,d)=>d
 | none=>false
def goneF (C:CM) (k:Nat):List Int:=((List.range k).map fun i=>((i+1:Nat):Int)).filter (dropB C)
theorem goneF_succ (C:CM) (k:Nat):goneF C (k+1)=goneF C k++(if dropB C ((k+1:Nat):Int) then [((k+1:Nat):Int)] else []):=by
 simp only [goneF,List.range_succ,List.map_append,List.map_cons,List.map_nil,List.filter_append]
 congr 1
 simp [List.filter_cons]
theorem goneF_len (C:CM) (k:Nat):(goneF C k).length≤k:=by
 unfold goneF
 refine Nat.le_trans (List.length_filter_le _ _) (by simp)
theorem gone_loop {τ:Gh} {c M:Nat} {g:Int→Option Nat} {C:CM} {la:Int} (h0':0≤la) (h9:la≤8796093022208) {Q:X→St→Prop} {n0:Nat} {h0:Heap} (I0:TInv τ h0 n0) (R:CellsX τ c M g C la)
  (hQ:∀ (t3 t4:V) (h:Heap) (n:Nat) (s:St) (a:Nat),F113_L110100 (.ptr c 0) t3 t4 h n s→n0≤n→n0≤a→GrowAt h a t3 1 (goneF C la.toNat).length (intsV' (goneF C la.toNat))→(t3=.s (.slice none 0 0)∧goneF C la.toNat=[]∨a<n)→Same n0 [] h0 h→Q (.exit 0) s) :
  ∀ m s,(∃ (i:Nat) (h:Heap) (n:Nat) (t3:V) (a:Nat),m=la.toNat+1-i∧1≤i∧(i:Int)≤la+1∧F113_L110100 (.ptr c 0) t3 (.s (.int .i64 i)) h n s∧n0≤n∧n0≤a∧a≤n∧GrowAt h a t3 1 (goneF C (i-1)).length (intsV' (goneF C (i-1)))∧Same n0 [] h0 h) →
   LoopK CC none (subC [1,1,0,1,0,0] (bodyOf Tryz.f113)) s Q:=by
 refine loopH CCok _ ?_
 rintro m s ⟨i,h,n,t3,a,hm,h1,hi,hs,hn,ha,han,hG,hsame⟩ hlt
 obtain ⟨g',rfl⟩:=hs
 rw [F113_b110100]
 replace hlt:∀ b o,h.get b=some o→b<n:=hlt
 have I:TInv τ h n:=I0.same hsame hn
 obtain ⟨hg,hx⟩:=R.look I i
 obtain ⟨j,rfl⟩:∃ j,i=j+1:=⟨i-1,by omega⟩
 have hgl:=goneF_len C j
 have hsucc:=goneF_succ C j
 rw [show j+1-1=j by omega] at hG
 by_cases hi':((j+1:Nat):Int)≤la
 ·obtain ⟨i2,hi2⟩:∃ i2,i2=j+1+1:=⟨_,rfl⟩
  have e3:wrapF .i64 (((j+1:Nat):Int)+1)=((i2:Nat):Int):=by rw [wrapF_i64 (by omega) (by omega)]; omega
  obtain ⟨q,hq⟩:∃ q:Int,q=((j+1:Nat):Int):=⟨_,rfl⟩
  rw [← hq] at hi' hx e3 hsucc ⊢
  simp [cellsAt,hg,hi']
  rcases hx with ⟨hC,e⟩ | ⟨l,dr,p,hC,hp,hgx,e⟩
  ·have hd:dropB C q=false:=by unfold dropB; rw [hC]
   rw [hd] at hsucc
   simp at hsucc
   simp [e,roundQ]
   exact ⟨la.toNat+1-i2,by omega,h,fun hok b o hb=>⟨o,hb,hok b o hb⟩,i2,rfl,by omega,by omega,h,n,t3,by rw [e3]; exact F113_L110100_of,hn,a,ha,han,by rw [hi2,show j+1+1-1=j+1 by omega,hsucc]; exact hG,hsame⟩
  ·obtain ⟨hpn,v,wr,s1,s2,bw,la',hgp,hv,m1,m2,n1,n2,_⟩:=I p _ hp
   simp [e,cellsAt,hgp]
   cases dr with
   | false=>
    have hd:dropB C q=false:=by unfold dropB; rw [hC]
    rw [hd] at hsucc
    simp at hsucc
    simp [roundQ]
    exact ⟨la.toNat+1-i2,by omega,h,fun hok b o hb=>⟨o,hb,hok b o hb⟩,i2,rfl,by omega,by omega,h,n,t3,by rw [e3]; exact F113_L110100_of,hn,a,ha,han,by rw [hi2,show j+1+1-1=j+1 by omega,hsucc]; exact hG,hsame⟩
   | true=>
    have hd:dropB C q=true:=by unfold dropB; rw [hC]
    rw [hd] at hsucc
    simp at hsucc
    simp
    have hs1:Same n0 [] h0 (h.set n (.cells (.lst [.s (.int .i64 q)]) 1)):=fun b hb _=>by rw [Tree.get_set,if_neg (by omega),hsame b hb (by simp)]
    have hlt':∀ b o,(h.set n (.cells (.lst [.s (.int .i64 q)]) 1)).get b=some o→b<n+1:=fun b o hb=>by
     rw [Tree.get_set] at hb
     split at hb
     ·omega
     ·have:=hlt b o hb; omega
    obtain ⟨a2,b1,b2,hG'⟩:∃ a2,n0≤a2∧a2≤n∧GrowAt (h.set n (.cells (.lst [.s (.int .i64 q)]) 1)) a2 t3 1 (goneF C j).length (intsV' (goneF C j)):=by
     rcases hG with H | ⟨o,k,op,A,k1,k2,k3,k4⟩
     ·exact ⟨a,ha,han,.inl H⟩
     ·have:=hlt _ _ k3
      exact ⟨a,ha,han,.inr ⟨o,k,op,A,k1,k2,by rw [Tree.get_set,if_neg (by omega)]; exact k3,k4⟩⟩
    refine grow_ok (m:=1) (new:=[.s (.int .i64 q)]) (by omega) hG' (.row (A:=[.s (.int .i64 q)]) (es:=1) (by simp [cellsAt,Tree.get_set]) rfl rfl) (by omega) (by omega) ?_
    intro v' a' h2 n2' ha' han' hn2 hG2 hs2
    simp [roundQ]
    have hG3:GrowAt h2 a' v' 1 (goneF C (j+1)).length (intsV' (goneF C (j+1))):=by rw [hsucc]; simpa [intsV'] using hG2
    exact ⟨la.toNat+1-i2,by omega,h2,fun hok b o hb=>⟨o,hb,hok b o hb⟩,i2,rfl,by omega,by omega,h2,n2',v',by rw [e3]; exact F113_L110100_of,by omega,a',by omega,by omega,by rw [hi2,show j+1+1-1=j+1 by omega]; exact hG3,fun b hb _=>by rw [hs2 b (by omega) (by omega),hs1 b hb (by simp)]⟩
 ·have hj:j=la.toNat:=by omega
  obtain ⟨q,hq⟩:∃ q:Int,q=((j+1:Nat):Int):=⟨_,rfl⟩
  rw [← hq] at hi' ⊢
  simp [cellsAt,hg,hi',roundQ]
  have hor:t3=.s (.slice none 0 0)∧goneF C j=[]∨a<n:=by
   rcases hG with ⟨q1,q2,q3⟩ | ⟨o,k,op,A,k1,k2,k3,k4⟩
   ·exact .inl ⟨q1,List.length_eq_zero_iff.1 q2⟩
   ·exact .inr (hlt _ _ k3)
  rw [hj] at hG hor
  exact hQ _ _ h n _ a F113_L110100_of hn ha hG hor hsame
theorem gone_ok {τ:Gh} {c M:Nat} {g:Int→Option Nat} {C:CM} {la:Int} {h:Heap} {n:Nat} (I:TInv τ h n) (R:CellsX τ c M g C la) (h0:0≤la) (h9:la≤8796093022208) :
  CallK CC 113 [.ptr c 0] h n fun v h' n'=>(∃ a:Nat,n≤a∧GrowAt h' a v 1 (goneF C la.toNat).length (intsV' (goneF C la.toNat))∧(v=.s (.slice none 0 0)∧goneF C la.toNat=[]∨a<n'))∧Same n [] h h':=by
 refine F113_call fun hlt=>?_
 rw [F113_eq]
 refine gone_loop h0 h9 (n0:=n) (h0:=h) I R ?_ _ _ ⟨1,h,n,_,n,rfl,by omega,by omega,F113_L110100_of,by omega,by omega,by omega,GrowAt.nil _ _ _,Same.refl _ _ _⟩
 intro t3 t4 h' n' s a hs hn ha hG hor hsame
 obtain ⟨g',rfl⟩:=hs
 rw [F113_r110100_0]
 exact ⟨⟨a,ha,hG,hor⟩,hsame⟩
theorem intsV_at {h:Heap} {a:Nat} {v:V} {l:List Int} (H:SliceAt h a v 1 l.length (intsV' l)) {i:Nat} (hi:i<l.length) :
  ∃ p A es,indexAddr CC 85 v (.s (.int .i64 i))=some (.ptr a p)∧cellsAt h a=some (.lst A,es)∧A[p]? = some (.s (.int .i64 l[i])):=by
 rcases H with ⟨rfl,h2,h3⟩ | ⟨o,c,op,A,es,rfl,h2,h3,h4⟩
 ·omega
 ·refine ⟨o+i,A,es,by simp [hi,blt_dec],h2,?_⟩
  have:((A.drop o).take (l.length*1))[i]? = some (.s (.int .i64 l[i])):=by rw [h3]; simp [hi]
  rw [List.getElem?_take_of_lt (by omega),List.getElem?_drop] at this
  exact this
theorem intsV_len {h h':Heap} {a:Nat} {v:V} {l:List Int} (H:SliceAt h a v 1 l.length (intsV' l)):lenV CC h' 85 v=some (.s (.int .i64 l.length)):=by
 rcases H with ⟨rfl,h2,h3⟩ | ⟨o,c,op,A,es,rfl,h2,h3,h4⟩
 ·simp [h2]
 ·simp
def delF (C:CM) (l:List Int):CM:=fun x=>if x∈l then none else C x
theorem CellsX.del {τ:Gh} {c M:Nat} {g:Int→Option Nat} {C:CM} {last:Int} (R:CellsX τ c M g C last) (x:Int):CellsX (upT τ M (.cmap (updG g x none))) c M (updG g x none) (updG C x none) last:=by
 obtain ⟨h1,h2,h3⟩:=R
 refine ⟨by rw [upT_other (by rintro rfl; rw [h2] at h1; cases h1)]; exact h1,upT_same _ _ _,fun y=>?_⟩
 by_cases hy:y=x
 ·subst hy; exact .inl ⟨updG_same _ _ _,updG_same _ _ _⟩
 ·rcases h3 y with ⟨a1,a2⟩ | ⟨m,e,q,a1,a2,a3⟩
  ·exact .inl ⟨by rw [updG_other hy]; exact a1,by rw [updG_other hy]; exact a2⟩
  ·exact .inr ⟨m,e,q,by rw [updG_other hy]; exact a1,by rw [updG_other hy]; exact a2,by rw [upT_other (by rintro rfl; rw [h2] at a3; cases a3)]; exact a3⟩
theorem delF_nil (C:CM):delF C []=C:=by funext x; simp [delF]
theorem delF_succ (C:CM) {l:List Int} {i:Nat} (h:i<l.length):updG (delF C (l.take i)) l[i] none=delF C (l.take (i+1)):=by
 funext x
 have e:l.take (i+1)=l.take i++[l[i]]:=by rw [List.take_add_one,List.getElem?_eq_getElem h]; rfl
 have hm:x∈l.take (i+1)↔x∈l.take i∨x=l[i]:=by rw [e,List.mem_append,List.mem_singleton]
 unfold updG delF
 by_cases hx:x=l[i]
 ·rw [if_pos hx,if_pos (hm.2 (.inr hx))]
 ·rw [if_neg hx]
  by_cases hy:x∈l.take i
  ·rw [if_pos hy,if_pos (hm.2 (.inl hy))]
  ·rw [if_neg hy,if_neg (fun h=>(hm.1 h).elim hy hx)]
theorem sweep_loop {τ:Gh} {c M:Nat} {C:CM} {la:Int} {v:V} {l:List Int} (hl:l.length≤1000000000000000) {Q:X→St→Prop} {n0:Nat} {h0:Heap}
  (hv:∀ i (hi:i<l.length),∃ a p A es,a<n0∧τ a=none∧indexAddr CC 85 v (.s (.int .i64 i))=some (.ptr a p)∧cellsAt h0 a=some (.lst A,es)∧A[p]? = some (.s (.int .i64 l[i])))
  (hQ:∀ t10 h n s,F59_L110100 (.ptr c 0) v v (.s (.int .i64 l.length)) t10 h n s→n0≤n→Goes cellFp τ n0 h0 h n (fun τ'=>∃ g,CellsX τ' c M g (delF C l) la)→Q (.exit 0) s) :
  ∀ m s,(∃ i h n,m=l.length-i∧i≤l.length∧F59_L110100 (.ptr c 0) v v (.s (.int .i64 l.length)) (.s (.int .i64 i)) h n s∧n0≤n∧Goes cellFp τ n0 h0 h n fun τ'=>∃ g,CellsX τ' c M g (delF C (l.take i)) la) →
   LoopK CC none (subC [1,1,0,1,0,0] (bodyOf Tryz.f59)) s Q:=by
 refine loopH CCok _ ?_
 rintro m s ⟨i,h,n,hm,hi,hs,hn,τ1,I1,K1,g,R⟩ hlt
 obtain ⟨g',rfl⟩:=hs
 rw [F59_b110100]
 by_cases hi':i<l.length
 ·have e3:wrapF .i64 ((i:Int)+1)=((i+1:Nat):Int):=by rw [wrapF_i64 (by omega) (by omega)]; rfl
  have hg:h.get c=some (.cells (.lst [.map M,.s (.int .i64 la)]) 2):=(I1 c _ R.c0).2
  obtain ⟨a,p,A,es,a1,a2,p1,p2,p3⟩:=hv i hi'
  have p2':cellsAt h a=some (.lst A,es):=by unfold cellsAt at p2 ⊢; rw [(K1.non a a1 a2).2]; exact p2
  obtain ⟨ents,ck,hgM,HM⟩:=(I1 M _ R.m0).2
  obtain ⟨es',ck',d1,d2⟩:=delete_ent hgM HM l[i]
  unfold cellsAt at p2'
  simp [hi',p1,p2',p3,cellsAt,hg,d1,roundQ]
  have key:∀ x,x<n→x≠M→(∀ i,τ1 x≠some (.part M i))→(h.set M (.map es' ck')).get x=h.get x:=fun x _ hx _=>by rw [Tree.get_set,if_neg hx]
  have I2:=I1.put (k':=.cmap (updG g l[i] none)) (Nat.le_refl _) R.m0 (noPart (by simp)) (noPart (by simp)) key ⟨es',ck',by rw [Tree.get_set,if_pos rfl],d2⟩
  have K2:Keep cellFp τ1 (upT τ1 M (.cmap (updG g l[i] none))) n h (h.set M (.map es' ck')):=Keep.put I1 R.m0 (noPart (by simp)) key trivial
  exact ⟨l.length-(i+1),by omega,h.set M (.map es' ck'),fun hok b o hb=>⟨o,hb,hok b o hb⟩,i+1,rfl,by omega,_,_,by rw [e3]; exact F59_L110100_of,hn,_,I2,K1.trans hn K2,_,by rw [← delF_succ C hi']; exact R.del l[i]⟩
 ·have:i=l.length:=by omega
  subst this
  simp [roundQ]
  exact hQ _ h n _ F59_L110100_of hn ⟨τ1,I1,K1,g,by rw [List.take_of_length_le (Nat.le_refl _)] at R; exact R⟩
theorem sweepC_ok {τ:Gh} {c:Nat} {C:CM} {la:Int} {h:Heap} {n:Nat} (I:TInv τ h n) (R:CellsR τ c C la) (h0:0≤la) (h9:la≤8796093022208) :
  CallK CC 59 [.ptr c 0] h n fun v h' n'=>v=.s (.int .i64 (goneF C la.toNat).length)∧Goes cellFp τ n h h' n' fun τ'=>CellsR τ' c (delF C (goneF C la.toNat)) la:=by
 refine F59_call fun hlt=>?_
 rw [F59_eq]
 obtain ⟨M,g,R⟩:=R
 refine CallK.monoN ?_ (gone_ok I R h0 h9)
 rintro v h1 n1 ⟨⟨a,ha,hG,hor⟩,hs1⟩ hn1
 have hgl:=goneF_len C la.toNat
 have hlen:=intsV_len hG.at (h':=h1)
 simp [hlen]
 refine sweep_loop (l:=goneF C la.toNat) (n0:=n1) (h0:=h1) (C:=C) (M:=M) (τ:=τ) (la:=la) (by omega) ?_ ?_ _ _ ⟨0,h1,n1,rfl,by omega,F59_L110100_of,by omega,τ,I.same hs1 hn1,Keep.refl _ _ _ _,g,by rw [List.take_zero,delF_nil]; exact R⟩
 ·intro i hi
  obtain ⟨p,A,es,p1,p2,p3⟩:=intsV_at hG.at hi
  rcases hor with ⟨_,e⟩ | hor
  ·rw [e] at hi; simp at hi
  ·exact ⟨a,p,A,es,hor,I.none ha,p1,p2,p3⟩
 ·intro t10 h2 n2 s hs hn2 G
  obtain ⟨g',rfl⟩:=hs
  have hlen2:=intsV_len hG.at (h':=h2)
  rw [F59_r110100_0,hlen2]
  obtain ⟨τ',I',K',g2,R2⟩:=G
  exact ⟨rfl,τ',I',(Keep.of_same hs1).trans hn1 K',M,g2,R2⟩
end Go.Ev
end
section
namespace Go.Ev
open Proofs
set_option maxRecDepth 20000
theorem min64 {m:Nat} (h:m≤64):minW (m:Int) 64=m:=by unfold minW; split <;> omega
theorem max1 {m:Nat} (h:1≤m):maxW 1 (m:Int)=m:=by unfold maxW; split <;> omega
def pairV (r:Option Int):V:=.tup [.s (.int .i64 (r.getD 0)),.s (.bool r.isSome)]
def idsF (la:Int) (m i:Nat):List Int:=(List.range m).map fun (k:Nat)=>if k<i then la+(k:Int)+1 else 0
@[simp] theorem idsF_length (la:Int) (m i:Nat):(idsF la m i).length=m:=by simp [idsF]
theorem idsF_succ (la:Int) {m i:Nat} (h:i<m):splice (idsF la m i) i [la+(i:Int)+1]=idsF la m (i+1):=by
 apply List.ext_getElem?
 intro k
 rw [splice_at (by simp; omega)]
 by_cases hk:k<m
 ·by_cases e:k=i
  ·subst e; rw [if_pos (by simp)]; simp [idsF,hk]
  ·rw [if_neg (by simp; omega)]
   simp only [idsF,List.getElem?_map,List.getElem?_range hk,Option.map_some]
   by_cases h2:k<i
   ·rw [if_pos h2,if_pos (by omega)]
   ·rw [if_neg h2,if_neg (by omega)]
 ·rw [if_neg (by simp; omega),List.getElem?_eq_none (by simp; omega),List.getElem?_eq_none (by simp; omega)]
def mkF (C:CM) (la:Int) (sz m:Nat):CM:=fun x=>if la<x∧x≤la+(m:Int) then some (List.replicate sz 0,false) else C x
theorem mkF_zero (C:CM) (la:Int) (sz:Nat):mkF C la sz 0=C:=by funext x; unfold mkF; rw [if_neg (by omega)]
theorem mkF_succ (C:CM) (la:Int) (sz m:Nat):updG (mkF C la sz m) (la+(m:Int)+1) (some (List.replicate sz 0,false))=mkF C la sz (m+1):=by
 funext x
 unfold updG mkF
 by_cases h:x=la+(m:Int)+1
 ·rw [if_pos h,if_pos (by omega)]
 ·rw [if_neg h]
  by_cases h2:la<x∧x≤la+(m:Int)
  ·rw [if_pos h2,if_pos (by omega)]
  ·rw [if_neg h2,if_neg (by omega)]
theorem arrayNew_loop {τ:Gh} {c a b m sz j:Nat} {C:CM} {la:Int} (hm64:m≤64) (hsz:1≤sz) (hsz9:sz≤64) (hbt:τ b=none) (h0':0≤la) (h9:la≤4611686018427380000) {Q:X→St→Prop} {n0 n1:Nat} {h0:Heap} (h01:n0≤n1) (ha0:n0≤a)
  (I0:TInv τ h0 n1) (hb:b<n1) (hgb:h0.get b=some (.cells (.lst (bytesV' (List.replicate sz 0))) 1))
  (hQ:∀ τ' h n s t24 t25,F100_L1110100 (.ptr c 0) (.ptr a 0) (.slice b 0 sz sz false) t24 t25 h n s→n1≤n→TInv τ' h n→Keep (fun x k=>cellFp x k∨x=a) τ τ' n1 h0 h→CellsR τ' c (mkF C la sz m) (la+m)→τ' a=some (.arr j (idsF la m m))→Q (.exit 0) s) :
  ∀ k s,(∃ i τ' h n,k=m-i∧i≤m∧F100_L1110100 (.ptr c 0) (.ptr a 0) (.slice b 0 sz sz false) (.s (.int .i64 (m:Nat))) (.s (.int .i64 (i:Nat))) h n s∧n1≤n∧TInv τ' h n∧Keep (fun x k=>cellFp x k∨x=a) τ τ' n1 h0 h∧CellsR τ' c (mkF C la sz i) (la+i)∧τ' a=some (.arr j (idsF la m i))) →
   LoopK CC none (subC [1,1,1,0,1,0,0] (bodyOf Tryz.f100)) s Q:=by
 refine loopH CCok _ ?_
 rintro k s ⟨i,τ',h,n,hk,hi,hs,hn,I,K,R,ha⟩ hlt
 obtain ⟨g,rfl⟩:=hs
 rw [F100_b1110100]
 by_cases hi':i<m
 ·have e3:wrapF .i64 ((i:Int)+1)=((i+1:Nat):Int):=by rw [wrapF_i64 (by omega) (by omega)]; rfl
  have han:=(I a _ ha).1
  obtain ⟨v0,hga0,⟨d,o,cc,op,A,es,rfl,hd0,hgd0,hA,h2',h3'⟩,h64⟩:=(I a _ ha).2
  rw [idsF_length] at hga0
  simp [hi',cellsAt,hga0]
  have hbn:=K.non b hb hbt
  have hgb1:h.get b=some (.cells (.lst (bytesV' (List.replicate sz 0))) 1):=by rw [hbn.2]; exact hgb
  have hbs:BytesAt h b (.slice b 0 sz sz false) (List.replicate sz 0):=.inr ⟨0,sz,false,_,1,by simp,by simp [cellsAt,hgb1]; rfl,by simpa using List.take_of_length_le (by simp),by simp⟩
  refine CallK.monoN ?_ (make_ok (I.weaken (show n≤n+10 by omega)) R (by omega) (by omega) (by omega) hbn.1 hbs (by intro b o l c p e; cases e; omega) (fun x hx=>by have:=List.eq_of_mem_replicate hx; omega) (by simp; omega) (by simp; omega))
  rintro v h2 n2 ⟨τ2,I2,K2,rfl,R2⟩ hn2
  have ha2:τ2 a=some (.arr j (idsF la m i)):=K2.ty a _ (by omega) ha (.inl id)
  have mem:∀ x,x<n→(x=a∨∃ i,τ' x=some (.part a i))→h2.get x=h.get x:=fun x hx hp=>K2.mem a _ x (by omega) (by omega) ha (by simp) id hp
  have hga:=(mem a han (.inl rfl)).trans hga0
  have hgd:=(mem d (I d _ hd0).1 (.inr ⟨0,hd0⟩)).trans hgd0
  have hd:=K2.ty d _ (by have:=(I d _ hd0).1; omega) hd0 (.inr ⟨_,_,rfl⟩)
  rw [idsF_length] at hA h2' h3'
  generalize hw:(V.s (Value.int IntKind.i64 (la+(i:Int)+1)))=w
  have e6:storeCells h2 d (o+i) (.one w)=some (h2.set d (.cells (.lst (splice A (o+i) [w])) es)):=storeCells_lst hgd (by show o+i+1≤A.length; omega)
  have hw1:w.cells=some (.one w):=by rw [← hw]; rfl
  have ad:a≠d:=by rintro rfl; rw [ha2] at hd; cases hd
  have key:∀ x,x<n2→x≠a→(∀ i,τ2 x≠some (.part a i))→(h2.set d (.cells (.lst (splice A (o+i) [w])) es)).get x=h2.get x:=fun x _ _ hx=>by rw [Tree.get_set,if_neg (by rintro rfl; exact hx 0 hd)]
  have I3:TInv (upT τ2 a (.arr j (idsF la m (i+1)))) (h2.set d (.cells (.lst (splice A (o+i) [w])) es)) n2:=I2.put (Nat.le_refl _) ha2 (noPart (by simp)) (noPart (by simp)) key ⟨_,by rw [Tree.get_set,if_neg ad]; exact hga,by
   have:=NumsS.put (τ':=upT τ2 a (.arr j (idsF la m (i+1)))) (b:=a) (i:=0) (k:=.i64) (l:=idsF la m i) (m:=[la+(i:Int)+1]) (j:=i) (c:=cc) (op:=op) (h':=h2.set d (.cells (.lst (splice A (o+i) [w])) es)) (by rw [upT_other (Ne.symm ad)]; exact hd) (by simpa using hA) (by simpa using h2') (by simpa using h3') (by simp; omega) (es:=es) (by rw [Tree.get_set,if_pos rfl,← hw]; rfl)
   rw [idsF_succ la hi',idsF_length] at this
   exact this,by simpa using h64⟩
  have K3:Keep (fun x k=>cellFp x k∨x=a) τ2 (upT τ2 a (.arr j (idsF la m (i+1)))) n2 h2 (h2.set d (.cells (.lst (splice A (o+i) [w])) es)):=Keep.put I2 ha2 (noPart (by simp)) key (.inr rfl)
  have Kall:=K.trans (show n1≤n+10 by omega) ((K2.mono fun _ _ _ h=>Or.inl h).trans (by omega) K3)
  simp [hga,hi',blt_dec,hw1,e6,roundQ]
  refine ⟨m-(i+1),by omega,h2.set d (.cells (.lst (splice A (o+i) [w])) es),fun hok b o hb=>⟨o,hb,hok b o hb⟩,i+1,rfl,by omega,_,_,_,by rw [e3]; exact F100_L1110100_of,by omega,I3,Kall,?_,upT_same _ _ _⟩
  have R3:=R2.keep (fp:=onlyFp a) I2 (Keep.put (fp:=onlyFp a) (k':=.arr j (idsF la m (i+1))) I2 ha2 (noPart (by simp)) key rfl) (fun x k hx hc e=>by rw [show x=a from e,ha2] at hx; cases hx; exact hc)
  ·rw [show la+((i+1:Nat):Int)=la+(i:Int)+1 by omega]
   have e7:(List.replicate sz (0:Int)).take 64=List.replicate sz 0:=List.take_of_length_le (by simpa using hsz9)
   rw [e7,mkF_succ] at R3
   exact R3
 ·have:i=m:=by omega
  subst this
  simp [roundQ]
  exact hQ τ' h n _ _ _ F100_L1110100_of hn I K R ha
theorem arrayNew_ok {τ:Gh} {h:Heap} {n c m sz:Nat} (j:Nat) {C:CM} {la:Int} (I:TInv τ h n) (hm1:1≤m) (hm64:m≤64) (hsz:1≤sz) (hsz9:sz≤64) (R:CellsR τ c C la) (h0:0≤la) (h9:la≤4611686018427380000) :
  CallK CC 100 [.ptr c 0,.s (.int .i64 (m:Nat)),.s (.int .i64 (sz:Nat))] h n fun v h' n'=>Goes cellFp τ n h h' n' fun τ'=>∃ a,v=.ptr a 0∧n≤a∧τ' a=some (.arr j (idsF la m m))∧CellsR τ' c (mkF C la sz m) (la+m):=by
 refine F100_call fun hlt=>?_
 rw [F100_eq]
 simp [min64 hm64,max1 hm1,min64 hsz9,max1 hsz,ble_dec,blt_dec,show 8*m≤281474976710656 by omega,show m<9223372036854775808 by omega,show sz≤281474976710656 by omega,show sz<9223372036854775808 by omega,cellsAt,Tree.get_set]
 generalize hh:(((h.set n (.cells (.lst (List.replicate m (.s (.int .i64 0)))) 1)).set (n+1) (.cells (.lst [.slice n 0 m m false]) 1)).set (n+1+1) (.cells (.lst (List.replicate sz (.s (.int .u8 0)))) 1))=h1
 have hs1:Same n [] h h1:=fun b hb _=>by rw [← hh,Tree.get_set,if_neg (by omega),Tree.get_set,if_neg (by omega),Tree.get_set,if_neg (by omega)]
 have g0:h1.get n=some (.cells (.lst (List.replicate m (.s (.int .i64 0)))) 1):=by rw [← hh,Tree.get_set,if_neg (by omega),Tree.get_set,if_neg (by omega),Tree.get_set,if_pos rfl]
 have g1:h1.get (n+1)=some (.cells (.lst [.slice n 0 m m false]) 1):=by rw [← hh,Tree.get_set,if_neg (by omega),Tree.get_set,if_pos rfl]
 have g2:h1.get (n+2)=some (.cells (.lst (List.replicate sz (.s (.int .u8 0)))) 1):=by rw [← hh,Tree.get_set,if_pos rfl]
 have id0:idsF la m 0=List.replicate m 0:=by
  apply List.ext_getElem?
  intro i
  by_cases hi:i<m
  ·simp [idsF,hi]
  ·rw [List.getElem?_eq_none (by simp; omega),List.getElem?_eq_none (by simp; omega)]
 have t1:∀ x,x<n→upT (upT τ n (.part (n+1) 0)) (n+1) (.arr j (idsF la m 0)) x=τ x:=fun x hx=>by rw [upT_other (by omega),upT_other (by omega)]
 have I2:TInv (upT (upT τ n (.part (n+1) 0)) (n+1) (.arr j (idsF la m 0))) h1 (n+3):=by
  refine I.news (by omega) t1 hs1 fun x k e hx=>?_
  by_cases e1:x=n+1
  ·subst e1; rw [upT_same] at e; cases e
   refine ⟨by omega,_,g1,⟨n,0,m,false,_,1,by simp,?_,g0,?_,by simp,by simp⟩,by simpa using hm64⟩
   ·rw [upT_other (by omega),upT_same]
   ·rw [id0]; simp [kV]
  ·rw [upT_other e1] at e
   by_cases e2:x=n
   ·subst e2; rw [upT_same] at e; cases e; exact ⟨by omega,trivial⟩
   ·rw [upT_other e2,I.none hx] at e; cases e
 have K2:∀ fp:Fp,Keep fp τ (upT (upT τ n (.part (n+1) 0)) (n+1) (.arr j (idsF la m 0))) n h h1:=fun fp=>Keep.news t1 hs1
 have t2:upT (upT τ n (.part (n+1) 0)) (n+1) (.arr j (idsF la m 0)) (n+2)=none:=by rw [upT_other (by omega),upT_other (by omega)]; exact I.none (by omega)
 refine arrayNew_loop (τ:=upT (upT τ n (.part (n+1) 0)) (n+1) (.arr j (idsF la m 0))) (a:=n+1) (b:=n+2) (C:=C) (la:=la) (j:=j) hm64 hsz hsz9 t2 h0 h9 (n0:=n) (n1:=n+3) (h0:=h1) (by omega) (by omega) I2 (by omega) (by rw [g2]; simp [bytesV']) ?_ _ _
  ⟨0,_,h1,n+3,rfl,by omega,F100_L1110100_of,by omega,I2,Keep.refl _ _ _ _,by rw [mkF_zero]; simpa using R.keep I (K2 noFp) (fun _ _ _ _ h=>h.elim),upT_same _ _ _⟩
 intro τ' h2 n2 s t24 t25 hs hn I3 K3 R3 ha
 obtain ⟨g,rfl⟩:=hs
 rw [F100_r1110100_0]
 refine ⟨τ',I3,?_,n+1,rfl,by omega,ha,R3⟩
 have K4:Keep (fun x k=>cellFp x k∨x=n+1) τ τ' n h h2:=(K2 _).trans (by omega) K3
 exact K4.mono fun b k hb hf=>hf.elim id fun e=>by rw [show b=n+1 from e,I.none (by omega)] at hb; cases hb
def arrF (ids:List Int) (k:Int):Option Int:=if k<0 then none else ids[k.toNat]?
theorem arrayCell_ok {τ:Gh} {h:Heap} {n a j:Nat} {ids:List Int} (I:TInv τ h n) (ha:τ a=some (.arr j ids)) (i:Int) :
  CallK CC 106 [.ptr a 0,.s (.int .i64 i)] h n fun v h' n'=>v=pairV (arrF ids i)∧h'=h:=by
 refine F106_call fun hlt=>?_
 rw [F106_eq]
 obtain ⟨han,v,hga,⟨d,o,c,op,A,es,rfl,hd,hgd,hA,h2,h3⟩,hm⟩:=I a _ ha
 unfold arrF pairV
 by_cases hi0:i<0
 ·simp [hi0]
 ·obtain ⟨k,rfl⟩:∃ k:Nat,i=k:=⟨i.toNat,by omega⟩
  by_cases hk:k<ids.length
  ·have hx:A[o+k]? = some (.s (.int .i64 ids[k])):=by
    have:((A.drop o).take ids.length)[k]? = some (.s (.int .i64 ids[k])):=by rw [hA]; exact kV_get hk
    rwa [List.getElem?_take_of_lt hk,List.getElem?_drop] at this
   simp [hi0,cellsAt,hga,hk,blt_dec,hgd,hx,show ¬ (ids.length≤k) by omega]
  ·simp [hi0,cellsAt,hga,show ids.length≤k by omega]
end Go.Ev
end
section
namespace Go.Ev
open Proofs
set_option maxRecDepth 20000
theorem conv_slice (h:Heap) (b o l c:Nat) (p:Bool):convert CC h 30 9 (.slice b o l c p)=(firstCells h 1 l (.slice b o l l false)).bind fun cs=>(toBytes cs.toList).bind fun bs=>some (.s (.string ⟨bs.toArray⟩)):=of_eq (by kernel_rfl)
theorem conv_nil (h:Heap):convert CC h 30 9 (.s (.slice none 0 0))=some (.s (.string .empty)):=of_eq (by kernel_rfl)
theorem conv_ok {h:Heap} {b:Nat} {v:V} {l:List Int} (H:BytesAt h b v l):convert CC h 30 9 v=some (.s (.string (ofI l))):=by
 rcases H with ⟨rfl,h0,_⟩ | ⟨o,c,op,A,es,rfl,h2,h3,h4⟩
 ·have:l=[]:=List.length_eq_zero_iff.1 h0
  subst this
  exact conv_nil h
 ·have hr:Row h 1 l.length (bytesV' l) (.slice b o l.length l.length false):=.row h2 h3 h4
  obtain ⟨r,r1,r2,r3⟩:=hr.all
  rw [conv_slice,r1,Option.bind_some,r2,toBytes_ok]
  rfl
theorem ofI_inj {a b:List Int} (ha:Byt a) (hb:Byt b):ofI a=ofI b↔a=b:=by
 constructor
 ·intro h
  have hl:a.length=b.length:=by rw [← ofI_size a,← ofI_size b,h]
  apply List.ext_getElem hl
  intro i h1 h2
  have e:(ofI a)[i]! = (ofI b)[i]!:=by rw [h]
  rw [ofI_get h1,ofI_get h2] at e
  exact (u8I_eq (ha _ (List.getElem_mem h1)) (hb _ (List.getElem_mem h2))).1 e
 ·rintro rfl; rfl
theorem str_eq (t:TypeId) (cst:Bool) (a b:ByteArray):binop CC .eql t cst (.s (.string a)) (.s (.string b))=some (.s (.bool (a.toList == b.toList))):=by rfl
theorem toList_loop (a:ByteArray):∀ (k i:Nat) (r:List UInt8),k=a.size-i→ByteArray.toList.loop a i r=r.reverse++a.data.toList.drop i
 | 0,i,r,h=>by
  unfold ByteArray.toList.loop
  rw [if_neg (by omega),List.drop_eq_nil_of_le (by show a.data.size≤i; have:a.size=a.data.size:=rfl; omega)]; simp
 | k+1,i,r,h=>by
  unfold ByteArray.toList.loop
  have hi:i<a.data.toList.length:=by show i<a.data.size; have:a.size=a.data.size:=rfl; omega
  rw [if_pos (by omega),toList_loop a k (i+1) _ (by omega),List.drop_eq_getElem_cons hi]
  have:a.get! i=a.data.toList[i]:=by
   show a.data[i]! = _
   rw [getElem!_pos a.data i (by simpa using hi)]; simp
  simp [this]
theorem toList_data (a:ByteArray):a.toList=a.data.toList:=by
 unfold ByteArray.toList
 rw [toList_loop a _ 0 [] rfl]; rfl
theorem str_dec {a b:List Int} (ha:Byt a) (hb:Byt b):((ofI a).toList == (ofI b).toList)=decide (a=b):=by
 rw [toList_data,toList_data,Bool.eq_iff_iff,beq_iff_eq,decide_eq_true_iff,← ofI_inj ha hb]
 constructor
 ·intro h
  have:(ofI a).data=(ofI b).data:=Array.toList_inj.1 h
  exact ByteArray.ext this
 ·intro h; rw [h]
theorem equal_ok {h:Heap} {n a b:Nat} {v w:V} {l m:List Int} (H:BytesAt h a v l) (G:BytesAt h b w m) (hl:Byt l) (hm:Byt m) :
  CallK CC 218 [v,w] h n fun r h' n'=>r=.s (.bool (decide (l=m)))∧h'=h:=by
 refine F218_call fun hlt=>?_
 rw [F218_eq]
 simp [conv_ok H,conv_ok G,str_eq,str_dec hl hm]
theorem wrap_u32r (x:Int):0≤wrapF .u32 x∧wrapF .u32 x<4294967296:=by
 unfold wrapF
 simp only [p2,IntKind.signed,cond_false]
 exact ⟨Int.emod_nonneg x (by decide),Int.emod_lt_of_pos x (by decide)⟩
def sumF:List Int→Int→Int
 | [],s=>s
 | x::l,s=>sumF l (wrapF .u32 (bitsI .xor .u32 s (wrapF .u32 x)*16777619))
theorem sumF_range:∀ (l:List Int) (s:Int),0≤s∧s<4294967296→0≤sumF l s∧sumF l s<4294967296
 | [],_,h=>h
 | _::l,_,_=>sumF_range l _ (wrap_u32r _)
theorem sum_loop {b:Nat} {sl:V} {l:List Int} (hl:l.length≤4611686018427387904) {Q:X→St→Prop} {h:Heap} (hs:BytesAt h b sl l)
  (hQ:∀ t8 n s,F220_L110100 (.s (.int .u32 (sumF l 2166136261))) sl (.s (.int .i64 l.length)) t8 h n s→Q (.exit 0) s) :
  ∀ m s,(∃ (i:Nat) (x:Int) (n:Nat),m=l.length-i∧i≤l.length∧sumF (l.drop i) x=sumF l 2166136261∧F220_L110100 (.s (.int .u32 x)) sl (.s (.int .i64 l.length)) (.s (.int .i64 i)) h n s) →
   LoopK CC none (subC [1,1,0,1,0,0] (bodyOf Tryz.f220)) s Q:=by
 refine loopH CCok _ ?_
 rintro m s ⟨i,x,n,hm,hi,hx,hs'⟩ hlt
 obtain ⟨g,rfl⟩:=hs'
 rw [F220_b110100]
 by_cases hi':i<l.length
 ·have e3:wrapF .i64 ((i:Int)+1)=((i+1:Nat):Int):=by rw [wrapF_i64 (by omega) (by omega)]; rfl
  obtain ⟨p,p1,p2⟩:=hs.ix hi'
  simp [hi',p1,p2,roundQ]
  exact ⟨l.length-(i+1),by omega,h,fun hok b o hb=>⟨o,hb,hok b o hb⟩,i+1,rfl,by omega,_,by rw [← hx,List.drop_eq_getElem_cons hi']; rfl,_,by rw [e3]; exact F220_L110100_of⟩
 ·have:i=l.length:=by omega
  subst this
  simp [sumF] at hx
  subst hx
  simp [roundQ]
  exact hQ _ n _ F220_L110100_of
theorem sum_ok {b:Nat} {sl:V} {l:List Int} (hl:l.length≤4611686018427387904) {h:Heap} {n:Nat} (hs:BytesAt h b sl l) :
  CallK CC 220 [sl] h n fun v h' n'=>v=.s (.int .u32 (sumF l 2166136261))∧h'=h:=by
 refine F220_call fun hlt=>?_
 rw [F220_eq]
 simp [hs.len]
 refine sum_loop hl hs ?_ _ _ ⟨0,2166136261,n,rfl,by omega,rfl,F220_L110100_of⟩
 intro t8 n' s hs'
 obtain ⟨g,rfl⟩:=hs'
 rw [F220_r110100_0]
 exact ⟨rfl,rfl⟩
theorem way1_loop {l hb:Nat} {f PP:Nat} (hf:f<PP) (hPP:PP≤1024) (P:Nat→Heap→Nat→Prop) (R:Heap→Nat→Prop) (hP0:∀ i h n n',P i h n→n≤n'→P i h n')
  (hPr:∀ i h n,P i h n→∃ hs key mx nn ks d o c op cs,h.get hb=some (.cells (.lst [.ptr hs 0]) 1)∧h.get hs=some (.cells (.lst [key,mx,nn,ks,.slice d o PP c op,cs]) 6))
  (hR:∀ i h n,i<PP→P i h n→RoundK CC l [.s (.int .i64 ((f+i) % PP:Nat))] h n fun v h' n'=>∃ bb,v=.s (.bool bb)∧if bb=true then P (i+1) h' n' else R h' n') {Q:X→St→Prop}
  (hQ:∀ h n s t4 t5,F219_L1100 (.yield l) (.ptr hb 0) t4 (.s (.int .i64 (PP:Nat))) t5 h n s→P PP h n→Q (.exit 0) s)
  (hQ1:∀ h n (L:List V),R h n→Q .ret ⟨mkTm L,h,n,[]⟩) :
  ∀ m s,(∃ i h n,m=PP-i∧i≤PP∧F219_L1100 (.yield l) (.ptr hb 0) (.s (.int .i64 (f:Nat))) (.s (.int .i64 (PP:Nat))) (.s (.int .i64 (i:Nat))) h n s∧P i h n) →
   LoopK CC none (subC [1,1,0,0] (bodyOf Tryz.f219)) s Q:=by
 refine loopH CCok _ ?_
 rintro m s ⟨i,h,n,hm,hi,hs',hp⟩ hlt
 obtain ⟨g,rfl⟩:=hs'
 rw [F219_b1100]
 by_cases hi':i<PP
 ·have e3:wrapF .i64 ((i:Int)+1)=((i+1:Nat):Int):=by rw [wrapF_i64 (by omega) (by omega)]; rfl
  obtain ⟨w,hw⟩:∃ w:Nat,w=f+i:=⟨_,rfl⟩
  have e4:wrapF .i64 ((f:Int)+(i:Int))=(w:Int):=by rw [wrapF_i64 (by omega) (by omega)]; omega
  obtain ⟨y,hy⟩:∃ y:Nat,y=w % PP:=⟨_,rfl⟩
  have e5:((w:Int)).tmod (PP:Int)=(y:Int):=by rw [Int.tmod_eq_emod_of_nonneg (by omega)]; omega
  have hyP:y<PP:=by rw [hy]; exact Nat.mod_lt _ (by omega)
  obtain ⟨hs,key,mx,nn,ks,d,o,c,op,cs,q1,q2⟩:=hPr i h n hp
  have e6:=bin_rem (C:=CC) 3 false .i64 (w:Int) (b:=(PP:Int)) (by omega)
  simp [hi',cellsAt,q1,q2,e4,e6,e5,callV]
  have hRi:=hR i h n hi' hp
  rw [← hw,← hy] at hRi
  refine RoundK.mono' ?_ hRi
  rintro v h1 n1 ⟨bb,rfl,hb⟩
  cases bb with
  | true=>
   simp [roundQ]
   simp at hb
   exact ⟨PP-(i+1),by omega,h1,fun hok b o hb=>⟨o,hb,hok b o hb⟩,i+1,rfl,by omega,h1,n1,by rw [e3]; exact F219_L1100_of,hb⟩
  | false=>
   simp [roundQ]
   simp at hb
   exact hQ1 _ _ _ hb
 ·have:i=PP:=by omega
  subst this
  simp [roundQ]
  exact hQ h n _ _ _ F219_L1100_of hp
theorem way1_ok {l kb hb b:Nat} {sl:V} {k:List Int} {PP f:Nat} (hf:f=(sumF k 2166136261).toNat % PP) (hP1:1≤PP) (hPP:PP≤1024) (hk:k.length≤4611686018427387904) (P:Nat→Heap→Nat→Prop) (R:Heap→Nat→Prop) (hP0:∀ i h n n',P i h n→n≤n'→P i h n')
  (hPr:∀ i h n,P i h n→∃ hs key mx nn ks d o c op cs,h.get hb=some (.cells (.lst [.ptr hs 0]) 1)∧h.get hs=some (.cells (.lst [key,mx,nn,ks,.slice d o PP c op,cs]) 6))
  (hR:∀ i h n,i<PP→P i h n→RoundK CC l [.s (.int .i64 ((f+i) % PP:Nat))] h n fun v h' n'=>∃ bb,v=.s (.bool bb)∧if bb=true then P (i+1) h' n' else R h' n')
  {h:Heap} {n:Nat} (hkb:h.get kb=some (.cells (.lst [sl]) 1)) (hsl:BytesAt h b sl k) (hP:P 0 h n) :
  CallK CC 219 [.yield l,.ptr kb 0,.ptr hb 0] h n fun _ h' n'=>P PP h' n'∨R h' n':=by
 refine F219_call fun hlt=>?_
 rw [F219_eq]
 obtain ⟨hs,key,mx,nn,ks,d,o,c,op,cs,q1,q2⟩:=hPr 0 h n hP
 have e1:wrapF .u32 (PP:Int)=(PP:Int):=wrapF_u32 (by omega) (by omega)
 have esl:normV sl=sl:=by rcases hsl with ⟨rfl,_⟩ | ⟨_,_,_,_,_,rfl,_⟩ <;> rfl
 simp [cellsAt,hkb,q1,q2,e1,esl]
 refine CallK.monoN ?_ (sum_ok hk hsl)
 rintro _ h1 n1 ⟨rfl,rfl⟩ hn1
 obtain ⟨x0,x1⟩:=sumF_range k 2166136261 (by omega)
 generalize sumF k 2166136261=x at hf x0 x1 ⊢
 obtain ⟨x,rfl⟩:∃ xn:Nat,x=xn:=⟨x.toNat,by omega⟩
 obtain ⟨y,hy⟩:∃ y:Nat,y=x % PP:=⟨_,rfl⟩
 have hfy:f=y:=by rw [hf,hy]; simp
 subst hfy
 have hyP:f<PP:=by rw [hy]; exact Nat.mod_lt _ (by omega)
 have e5:((x:Int)).tmod (PP:Int)=(f:Int):=by rw [Int.tmod_eq_emod_of_nonneg x0]; omega
 have e6:=fun t=>bin_rem (C:=CC) t false .u32 x (b:=(PP:Int)) (by omega)
 have e7:wrapF .i64 (f:Int)=f:=wrapF_i64 (by omega) (by omega)
 simp [cellsAt,q1,q2,e5,e6,e7]
 refine way1_loop (f:=f) hyP hPP P R hP0 hPr hR ?_ ?_ _ _ ⟨0,_,_,rfl,by omega,F219_L1100_of,hP0 0 _ _ _ hP ?_⟩
 ·intro h2 n2 s t4 t5 hs hp
  obtain ⟨g,rfl⟩:=hs
  rw [F219_r1100_0]
  exact .inl hp
 ·intro h2 n2 L hr
  simp [resume,retW,dropDefs]
  exact .inr hr
 ·omega
end Go.Ev
end
section
namespace Go.Ev
open Proofs
set_option maxRecDepth 20000
theorem num_at {A:List V} {o:Nat} {k:IntKind} {l:List Int} (hA:(A.drop o).take l.length=kV k l) {i:Nat} (hi:i<l.length):A[o+i]? = some (.s (.int k (l.getD i 0))):=by
 have:((A.drop o).take l.length)[i]? = some (.s (.int k l[i])):=by rw [hA]; exact kV_get hi
 rw [List.getElem?_take_of_lt hi,List.getElem?_drop] at this
 rw [this]; simp [List.getD_eq_getElem?_getD,hi]
structure HashAt (τ:Gh) (h:Heap) (b:Nat) (R:HashR) (ks st cs:V):Prop where
 hg:h.get b=some (.cells (.lst [.s (.int .i64 (R.key:Nat)),.s (.int .i64 R.mx),.s (.int .i64 R.n),ks,st,cs]) 6)
 hks:NumsS τ h b 0 .u8 ks R.ks
 hst:NumsS τ h b 1 .u8 st R.st
 hcs:NumsS τ h b 2 .i64 cs R.cs
 fine:R.Fine
theorem HashAt.of_inv {τ:Gh} {h:Heap} {n b i:Nat} {R:HashR} (I:TInv τ h n) (hb:τ b=some (.hash i R)):∃ ks st cs,HashAt τ h b R ks st cs:=by
 obtain ⟨_,ks,st,cs,h1,h2,h3,h4,h5⟩:=I b _ hb
 exact ⟨ks,st,cs,h1,h2,h3,h4,h5⟩
theorem HashAt.of {τ:Gh} {h h':Heap} {b:Nat} {R:HashR} {ks st cs:V} (H:HashAt τ h b R ks st cs) (e:∀ x,(x=b∨∃ i,τ x=some (.part b i))→h'.get x=h.get x):HashAt τ h' b R ks st cs:=
 ⟨by rw [e b (.inl rfl)]; exact H.hg,H.hks.of fun x hx=>⟨e x (.inr ⟨_,hx⟩),hx⟩,H.hst.of fun x hx=>⟨e x (.inr ⟨_,hx⟩),hx⟩,H.hcs.of fun x hx=>⟨e x (.inr ⟨_,hx⟩),hx⟩,H.fine⟩
def keyAt (R:HashR) (p:Nat):List Int:=(R.ks.drop (p*R.key)).take R.key
def hkey (ks:V) (p key:Nat):V:=match ks with
 | .slice d o _ _ _=>.slice d (o+p*key) key key false
 | v=>v
theorem keyAt_len {R:HashR} (F:R.Fine) {p:Nat} (hp:p<R.st.length):(keyAt R p).length=R.key:=by
 have hle:(p+1)*R.key≤R.st.length*R.key:=Nat.mul_le_mul_right _ (by omega)
 rw [Nat.add_mul] at hle
 simp [keyAt,F.ks]; omega
theorem keyAt_byt {R:HashR} (F:R.Fine) (p:Nat):Byt (keyAt R p):=fun x hx=>F.by_ x (List.mem_of_mem_drop (List.mem_of_mem_take hx))
theorem HashAt.key {τ:Gh} {h:Heap} {b:Nat} {R:HashR} {ks st cs:V} (H:HashAt τ h b R ks st cs) {p:Nat} (hp:p<R.st.length):∃ d,τ d=some (.part b 0)∧BytesAt h d (hkey ks p R.key) (keyAt R p):=by
 obtain ⟨d,o,c,op,A,es,rfl,hd,hgd,hA,h2,h3⟩:=H.hks
 have hl:=keyAt_len H.fine hp
 have hle:(p+1)*R.key≤R.st.length*R.key:=Nat.mul_le_mul_right _ (by omega)
 rw [Nat.add_mul,← H.fine.ks] at hle
 refine ⟨d,hd,.inr ⟨o+p*R.key,R.key,false,A,es,by rw [hl]; rfl,by simp [cellsAt,hgd],?_,by simp⟩⟩
 rw [hl,Nat.mul_one]
 have:(A.drop (o+p*R.key)).take R.key=(((A.drop o).take R.ks.length).drop (p*R.key)).take R.key:=by rw [List.drop_take,List.take_take,List.drop_drop]; congr 1; omega
 rw [this,hA]; simp [keyAt,kV,bytesV',List.map_take,List.map_drop]
theorem hashAt_ok {τ:Gh} {h:Heap} {n b p:Nat} {R:HashR} {ks st cs:V} (H:HashAt τ h b R ks st cs) (hp:p<R.st.length) :
  CallK CC 193 [.ptr b 0,.s (.int .i64 (p:Nat))] h n fun v h' n'=>v=hkey ks p R.key∧h'=h:=by
 refine F193_call fun hlt=>?_
 rw [F193_eq]
 obtain ⟨d,o,c,op,A,es,hv,hd,hgd,hA,h2,h3⟩:=H.hks
 have hg:=H.hg
 have:=H.fine.p2
 have:=H.fine.k2
 have hkl:=H.fine.ks
 rw [hv] at hg
 have hle:(p+1)*R.key≤R.st.length*R.key:=Nat.mul_le_mul_right _ (by omega)
 have hle2:R.st.length*R.key≤1024*16:=Nat.mul_le_mul (by omega) (by omega)
 obtain ⟨x,hx⟩:∃ x:Nat,x=p*R.key:=⟨_,rfl⟩
 obtain ⟨y,hy⟩:∃ y:Nat,y=(p+1)*R.key:=⟨_,rfl⟩
 have hxy:y=x+R.key:=by rw [hx,hy,Nat.add_mul]; omega
 obtain ⟨q,hq⟩:∃ q:Nat,q=p+1:=⟨_,rfl⟩
 have e0:wrapF .i64 ((p:Int)+1)=(q:Int):=by rw [wrapF_i64 (by omega) (by omega)]; omega
 have e1:wrapF .i64 ((p:Int)*(R.key:Int))=(x:Int):=by
  have:(p:Int)*(R.key:Int)=(x:Int):=by rw [hx]; simp
  rw [this,wrapF_i64 (by omega) (by omega)]
 have e2:wrapF .i64 ((q:Int)*(R.key:Int))=(y:Int):=by
  have:(q:Int)*(R.key:Int)=(y:Int):=by rw [hy,← hq]; simp
  rw [this,wrapF_i64 (by omega) (by omega)]
 simp [cellsAt,hg,e0,e1,e2,bounds,bound,ble_dec,show y≤c by omega,show x≤y by omega]
 rw [hv,hkey,← hx,show y-x=R.key by omega]
def placeG (R:HashR) (k:List Int) (f:Nat):Nat→Nat→Option Nat
 | 0,_=>none
 | m+1,i=>if R.st.getD ((f+i) % R.st.length) 0=0 then none else if R.st.getD ((f+i) % R.st.length) 0=1∧keyAt R ((f+i) % R.st.length)=k then some ((f+i) % R.st.length) else placeG R k f m (i+1)
def firstF (R:HashR) (k:List Int):Nat:=(sumF k 2166136261).toNat % R.st.length
def placeF (R:HashR) (k:List Int):Option Nat:=if k.length=R.key then placeG R k (firstF R k) R.st.length 0 else none
def placeI:Option Nat→Int
 | some p=>(p:Nat)
 | none=>-1
theorem placeG_lt {R:HashR} {k:List Int} {f:Nat} (h:0<R.st.length):∀ m i p,placeG R k f m i=some p→p<R.st.length
 | 0,_,_,e=>by cases e
 | m+1,i,p,e=>by
  unfold placeG at e
  split at e
  ·cases e
  ·split at e
   ·cases e; exact Nat.mod_lt _ h
   ·exact placeG_lt h m (i+1) p e
theorem placeF_lt {R:HashR} {k:List Int} (F:R.Fine) {p:Nat} (e:placeF R k=some p):p<R.st.length:=by
 unfold placeF at e
 split at e
 ·exact placeG_lt (by have:=F.p1; omega) _ _ _ e
 ·cases e
theorem way_ok {b hb:Nat} {sl:V} {k:List Int} {h:Heap} {n:Nat} (hs:BytesAt h b sl k) :
  CallK CC 192 [.ptr hb 0,sl] h n fun v h' n'=>(∃ kb hx,v=.func (.func 219) [] [.ptr kb 0,.ptr hx 0]∧n≤kb∧n≤hx∧kb<n'∧hx<n'∧h'.get kb=some (.cells (.lst [sl]) 1)∧h'.get hx=some (.cells (.lst [.ptr hb 0]) 1))∧Same n [] h h':=by
 refine F192_call fun hlt1=>?_
 rw [F192_eq]
 have esl:V.cells sl=some (.one sl)∧normV sl=sl:=by rcases hs with ⟨rfl,_⟩ | ⟨_,_,_,_,_,rfl,_⟩ <;> exact ⟨rfl,rfl⟩
 simp only [esl,oK_some,cells_ptr,Rope.toList_one]
 refine ⟨⟨n+1,n,rfl,by omega,by omega,by omega,by omega,by rw [Tree.get_set,if_pos rfl],by rw [Tree.get_set,if_neg (by omega),Tree.get_set,if_pos rfl]⟩,fun x hx _=>by rw [Tree.get_set,if_neg (by omega),Tree.get_set,if_neg (by omega)]⟩
theorem place_way {t0 t1 t2 t3 t4 t5 t6 t7 t8 t9 t10 t11 t12 t13 t14 t15 t16 t17 t18 t19 t20 t21 t22 t23 t24 t25 t26 t27 t28 t29 t30 t31 t32 t33 t34 t35 t36 t37 t38 t39 t40 t41 t42:V} {τ:Gh} {h8:Heap} {m hb b kb hx n2 n3 r:Nat} {R:HashR} {ks st cs sl:V} {k:List Int} (I:TInv τ h8 m) (H:HashAt τ h8 hb R ks st cs) (hbm:hb<m) (hrh:hb≠r) (hbn:b<m) (hbr:b≠r) (hs:BytesAt h8 b sl k) (hkB:Byt k) (hk:k.length≤4611686018427387904)
  (e2:t2=.ptr n2 0) (g2:h8.get n2=some (.cells (.lst [.ptr hb 0]) 1)) (e3:t3=.ptr n3 0) (g3:h8.get n3=some (.cells (.lst [sl]) 1)) (e4:t4=.ptr r 0) (g4:h8.get r=some (.cells (.lst [.s (.int .i64 0)]) 1)) (hr:r<m) (hrt:τ r=none)
  (gk:h8.get kb=some (.cells (.lst [sl]) 1)) (gx:h8.get hx=some (.cells (.lst [.ptr hb 0]) 1)) (l2:n2<m) (l3:n3<m) (lk:kb<m) (lx:hx<m) (d2:n2≠r) (d3:n3≠r) (dk:kb≠r) (dx:hx≠r) :
  CallK CC 219 [.yield (m+1),.ptr kb 0,.ptr hx 0] ((h8.set m .defd).set (m+1) (.loop .ready none (mkTm [t0,t1,t2,t3,t4,t5,t6,t7,t8,t9,t10,t11,t12,t13,t14,t15,t16,t17,t18,t19,t20,t21,t22,t23,t24,t25,t26,t27,t28,t29,t30,t31,t32,t33,t34,t35,t36,t37,t38,t39,t40,t41,t42]) [16] (subC [1,1,0,1,0,0] (bodyOf Tryz.f191)) (subC [1,1,0,1,0,1] (bodyOf Tryz.f191)))) (m+2)
   fun _ h' n'=>(∃ ls pend,h'.get (m+1)=some (.loop ls pend (mkTm [t0,t1,t2,t3,t4,t5,t6,t7,t8,t9,t10,t11,t12,t13,t14,t15,t16,t17,t18,t19,t20,t21,t22,t23,t24,t25,t26,t27,t28,t29,t30,t31,t32,t33,t34,t35,t36,t37,t38,t39,t40,t41,t42]) [16] (subC [1,1,0,1,0,0] (bodyOf Tryz.f191)) (subC [1,1,0,1,0,1] (bodyOf Tryz.f191))) ∧
    ((ls=.ready∧pend=none∧placeG R k (firstF R k) R.st.length 0=none∧h'.get r=some (.cells (.lst [.s (.int .i64 0)]) 1))∨(ls=.done∧pend=some .ret∧h'.get r=some (.cells (.lst [.s (.int .i64 (placeI (placeG R k (firstF R k) R.st.length 0)))]) 1))))∧Same m [r] h8 h'∧h'.get m=some .defd:=by
 subst e2 e3 e4
 generalize hA:subC [1,1,0,1,0,0] (bodyOf Tryz.f191)=asg
 generalize hB:subC [1,1,0,1,0,1] (bodyOf Tryz.f191)=bd
 generalize hT:mkTm _=T
 generalize hh0:((h8.set m .defd).set (m+1) (.loop .ready none T [16] asg bd))=h0
 have f0:∀ x,x<m→h0.get x=h8.get x:=fun x hx=>by rw [← hh0,Tree.get_set,if_neg (by omega),Tree.get_set,if_neg (by omega)]
 have fm:h0.get m=some .defd:=by rw [← hh0,Tree.get_set,if_neg (by omega),Tree.get_set,if_pos rfl]
 have fl:h0.get (m+1)=some (.loop .ready none T [16] asg bd):=by rw [← hh0,Tree.get_set,if_pos rfl]
 obtain ⟨d,o,c,op,A,es,rfl,hd,hgd,hA',h2,h3⟩:=H.hst
 have hdn:=(I d _ hd).1
 have hrp:∀ x i,τ x=some (.part hb i)→x<m∧x≠r:=fun x i e=>⟨(I x _ e).1,by rintro rfl; rw [hrt] at e; cases e⟩
 obtain ⟨W,hW⟩:∃ W,W=placeG R k (firstF R k) R.st.length 0:=⟨_,rfl⟩
 rw [← hW]
 have hp1:=H.fine.p1
 refine CallK.mono' ?_ (way1_ok (b:=b) (k:=k) (sl:=sl) (f:=firstF R k) rfl hp1 H.fine.p2 hk (fun i h n=>m+2≤n∧h.get (m+1)=some (.loop .ready none T [16] asg bd)∧Same (m+2) [m+1] h0 h∧W=placeG R k (firstF R k) (R.st.length-i) i)
  (fun h n=>h.get r=some (.cells (.lst [.s (.int .i64 (placeI W))]) 1)∧h.get (m+1)=some (.loop .done (some .ret) T [16] asg bd)∧Same (m+2) [m+1,r] h0 h) ?_ ?_ ?_ ?_ ?_ ?_)
 ·rintro _ h' n' (⟨q1,q2,q3,q4⟩ | ⟨q1,q2,q3⟩)
  ·rw [Nat.sub_self] at q4
   exact ⟨⟨_,_,q2,.inl ⟨rfl,rfl,q4,by rw [q3 r (by omega) (by simp; omega),f0 r hr,g4]⟩⟩,fun x hx _=>by rw [q3 x (by omega) (by simp; omega),f0 x hx],by rw [q3 m (by omega) (by simp),fm]⟩
  ·exact ⟨⟨_,_,q2,.inr ⟨rfl,rfl,q1⟩⟩,fun x hx hf=>by rw [q3 x (by omega) (by simp at hf ⊢; omega),f0 x hx],by rw [q3 m (by omega) (by simp; omega),fm]⟩
 ·rintro _ h n n' ⟨q1,q2⟩ hn; exact ⟨by omega,q2⟩
 ·rintro _ h n ⟨q1,q2,q3,q4⟩
  refine ⟨hb,_,_,_,_,d,o,c,op,_,by rw [q3 hx (by omega) (by simp; omega),f0 hx lx,gx],by rw [q3 hb (by omega) (by simp; omega),f0 hb hbm,H.hg]⟩
 ·rintro i h n hi ⟨q1,q2,q3,q4⟩
  obtain ⟨p,hpe⟩:∃ p,p=(firstF R k+i) % R.st.length:=⟨_,rfl⟩
  have hp:p<R.st.length:=by rw [hpe]; exact Nat.mod_lt _ (by omega)
  rw [show R.st.length-i=(R.st.length-(i+1))+1 by omega,placeG,← hpe] at q4
  rw [← hpe]
  refine F191_R11010 _ (by rw [hT,hA,hB]; exact q2) ?_
  rw [F191_g110101,hT,hA,hB]
  generalize hb1:(h.set (m+1) (.loop .busy none T [16] asg bd))=h1
  have f1:∀ x,x<m→h1.get x=h8.get x:=fun x hx=>by rw [← hb1,Tree.get_set,if_neg (by omega),q3 x (by omega) (by simp; omega),f0 x hx]
  have s1:Same (m+2) [m+1] h0 h1:=fun x hx hf=>by simp at hf; rw [← hb1,Tree.get_set,if_neg hf,q3 x hx (by simpa using hf)]
  have fl1:h1.get (m+1)=some (.loop .busy none T [16] asg bd):=by rw [← hb1,Tree.get_set,if_pos rfl]
  have a2:h1.get n2=some (.cells (.lst [.ptr hb 0]) 1):=by rw [f1 n2 l2,g2]
  have a3:h1.get n3=some (.cells (.lst [sl]) 1):=by rw [f1 n3 l3,g3]
  have a4:h1.get r=some (.cells (.lst [.s (.int .i64 0)]) 1):=by rw [f1 r hr,g4]
  have ah:h1.get hb=some (.cells (.lst [.s (.int .i64 (R.key:Nat)),.s (.int .i64 R.mx),.s (.int .i64 R.n),ks,.slice d o R.st.length c op,cs]) 6):=by rw [f1 hb hbm,H.hg]
  have ad:h1.get d=some (.cells (.lst A) es):=by rw [f1 d hdn,hgd]
  have hx:=num_at hA' hp
  generalize R.st.getD p 0=x at hx q4
  have hrl:m+1≠r:=by omega
  have eS:∀ y:Int,storeCells h1 r 0 (.one (.s (.int .i64 y)))=some (h1.set r (.cells (.lst [.s (.int .i64 y)]) 1)):=by intro y; simp [storeCells,cellsOwn,a4,Rope.put,ble_dec]
  have eR:∀ (y:Int) n',endRound .ret (m+1) (h1.set r (.cells (.lst [.s (.int .i64 y)]) 1)) n'=some (.s (.bool false),(h1.set r (.cells (.lst [.s (.int .i64 y)]) 1)).set (m+1) (.loop .done (some .ret) T [16] asg bd),n'):=by
   intro y n'; simp [endRound,Tree.get_set,hrl,fl1,jumpOf]
  have eN:∀ n',endRound .normal (m+1) h1 n'=some (.s (.bool true),h1.set (m+1) (.loop .ready none T [16] asg bd),n'):=by
   intro n'; simp [endRound,fl1,jumpOf]
  have pR:∀ y:Int,y=placeI W→((h1.set r (.cells (.lst [.s (.int .i64 y)]) 1)).set (m+1) (.loop .done (some .ret) T [16] asg bd)).get r=some (.cells (.lst [.s (.int .i64 (placeI W))]) 1) ∧
    ((h1.set r (.cells (.lst [.s (.int .i64 y)]) 1)).set (m+1) (.loop .done (some .ret) T [16] asg bd)).get (m+1)=some (.loop .done (some .ret) T [16] asg bd)∧Same (m+2) [m+1,r] h0 ((h1.set r (.cells (.lst [.s (.int .i64 y)]) 1)).set (m+1) (.loop .done (some .ret) T [16] asg bd)):=by
   rintro y rfl
   refine ⟨by rw [Tree.get_set,if_neg (by omega),Tree.get_set,if_pos rfl],by rw [Tree.get_set,if_pos rfl],fun z hz hf=>?_⟩
   simp at hf
   rw [Tree.get_set,if_neg hf.1,Tree.get_set,if_neg hf.2,s1 z hz (by simpa using hf.1)]
  have pN:∀ n',m+2≤n'→W=placeG R k (firstF R k) (R.st.length-(i+1)) (i+1)→m+2≤n'∧(h1.set (m+1) (.loop .ready none T [16] asg bd)).get (m+1)=some (.loop .ready none T [16] asg bd)∧Same (m+2) [m+1] h0 (h1.set (m+1) (.loop .ready none T [16] asg bd))∧W=placeG R k (firstF R k) (R.st.length-(i+1)) (i+1):=by
   intro n' hn' hw
   refine ⟨hn',by rw [Tree.get_set,if_pos rfl],fun z hz hf=>?_,hw⟩
   simp at hf
   rw [Tree.get_set,if_neg hf,s1 z hz (by simpa using hf)]
  by_cases x0:x=0
  ·rw [if_pos x0] at q4
   simp [cellsAt,a2,ah,ad,hx,hp,blt_dec,x0,eS,eR]
   exact pR (-1) (by rw [q4]; rfl)
  ·rw [if_neg x0] at q4
   by_cases x1:x=1
   ·have esl:normV sl=sl:=by rcases hs with ⟨rfl,_⟩ | ⟨_,_,_,_,_,rfl,_⟩ <;> rfl
    simp [cellsAt,a2,ah,ad,hx,hp,blt_dec,x1,a3,esl]
    have HH:HashAt τ h1 hb R ks (.slice d o R.st.length c op) cs:=H.of fun y hy=>f1 y (by rcases hy with rfl | ⟨i,hy⟩; exact hbm; exact (hrp y i hy).1)
    refine CallK.monoN ?_ (hashAt_ok (n:=n+16) HH hp)
    rintro v h2 n2' ⟨rfl,rfl⟩ hn2
    simp [a3,esl]
    obtain ⟨dk,hdk,hkl⟩:=HH.key hp
    refine CallK.monoN ?_ (equal_ok hkl (hs.of (f1 b hbn)) (keyAt_byt H.fine p) hkB)
    rintro v h3 n3' ⟨rfl,rfl⟩ hn3
    by_cases ht:keyAt R p=k
    ·rw [if_pos ⟨x1,ht⟩] at q4
     simp [ht,eS,eR]
     exact pR p (by rw [q4]; rfl)
    ·rw [if_neg fun h=>ht h.2] at q4
     simp [ht,eN]
     exact pN _ (by omega) q4
   ·rw [if_neg fun h=>x1 h.1] at q4
    simp [cellsAt,a2,ah,ad,hx,hp,blt_dec,x0,x1,eN]
    exact ⟨by omega,(pN n q1 q4).2⟩
 ·rw [f0 kb lk,gk]
 ·exact hs.of (f0 b hbn)
 ·exact ⟨by omega,fl,Same.refl _ _ _,by rw [Nat.sub_zero]; exact hW⟩
end Go.Ev
end
