import Derived.Test.YtaigdhieijndgaaGreatEQ12
import Derived.Test.YtaigdhieijndgaaGreatRB
namespace Go.Ev
set_option linter.unusedVariables false
@[simp] theorem ap109_109 (h:Heap) (n:Nat) (s x:V) (K:V→Heap→Nat→Prop):appendK CC h n 109 109 s x K=appendWK 5 56 h n s x K:=of_eq (by kernel_rfl)
@[simp] theorem ap118_118 (h:Heap) (n:Nat) (s x:V) (K:V→Heap→Nat→Prop):appendK CC h n 118 118 s x K=appendWK 1 8 h n s x K:=of_eq (by kernel_rfl)
@[simp] theorem ap128_128 (h:Heap) (n:Nat) (s x:V) (K:V→Heap→Nat→Prop):appendK CC h n 128 128 s x K=appendWK 1 24 h n s x K:=of_eq (by kernel_rfl)
@[simp] theorem ap248_248 (h:Heap) (n:Nat) (s x:V) (K:V→Heap→Nat→Prop):appendK CC h n 248 248 s x K=appendWK 2 24 h n s x K:=of_eq (by kernel_rfl)
@[simp] theorem ap30_30 (h:Heap) (n:Nat) (s x:V) (K:V→Heap→Nat→Prop):appendK CC h n 30 30 s x K=appendWK 1 1 h n s x K:=of_eq (by kernel_rfl)
@[simp] theorem ap40_40 (h:Heap) (n:Nat) (s x:V) (K:V→Heap→Nat→Prop):appendK CC h n 40 40 s x K=appendWK 2 48 h n s x K:=of_eq (by kernel_rfl)
@[simp] theorem ap42_42 (h:Heap) (n:Nat) (s x:V) (K:V→Heap→Nat→Prop):appendK CC h n 42 42 s x K=appendWK 4 32 h n s x K:=of_eq (by kernel_rfl)
@[simp] theorem ap85_85 (h:Heap) (n:Nat) (s x:V) (K:V→Heap→Nat→Prop):appendK CC h n 85 85 s x K=appendWK 1 8 h n s x K:=of_eq (by kernel_rfl)
@[simp] theorem cp30 (h:Heap) (d x:V) (K:V→Heap→Prop):copyK CC h 30 d x K=copyWK 1 h d x K:=of_eq (by kernel_rfl)
@[simp] theorem cv146_3 (h:Heap) (k:IntKind) (a:Int):convert CC h 146 3 (.s (.int k a))=some (.s (.int .i64 (wrapF .i64 a))):=of_eq (by kernel_rfl)
@[simp] theorem cv203_3 (h:Heap) (k:IntKind) (a:Int):convert CC h 203 3 (.s (.int k a))=some (.s (.int .i64 (wrapF .i64 a))):=of_eq (by kernel_rfl)
@[simp] theorem cv27_5 (h:Heap) (k:IntKind) (a:Int):convert CC h 27 5 (.s (.int k a))=some (.s (.int .u8 (wrapF .u8 a))):=of_eq (by kernel_rfl)
@[simp] theorem cv3_146 (h:Heap) (k:IntKind) (a:Int):convert CC h 3 146 (.s (.int k a))=some (.s (.int .u32 (wrapF .u32 a))):=of_eq (by kernel_rfl)
@[simp] theorem cv3_203 (h:Heap) (k:IntKind) (a:Int):convert CC h 3 203 (.s (.int k a))=some (.s (.int .u64 (wrapF .u64 a))):=of_eq (by kernel_rfl)
@[simp] theorem cv3_313 (h:Heap) (k:IntKind) (a:Int):convert CC h 3 313 (.s (.int k a))=some (.s (.int .u64 (wrapF .u64 a))):=of_eq (by kernel_rfl)
@[simp] theorem cv3_5 (h:Heap) (k:IntKind) (a:Int):convert CC h 3 5 (.s (.int k a))=some (.s (.int .u8 (wrapF .u8 a))):=of_eq (by kernel_rfl)
@[simp] theorem cv5_146 (h:Heap) (k:IntKind) (a:Int):convert CC h 5 146 (.s (.int k a))=some (.s (.int .u32 (wrapF .u32 a))):=of_eq (by kernel_rfl)
@[simp] theorem cv5_27 (h:Heap) (k:IntKind) (a:Int):convert CC h 5 27 (.s (.int k a))=some (.s (.int .u64 (wrapF .u64 a))):=of_eq (by kernel_rfl)
@[simp] theorem cv5_3 (h:Heap) (k:IntKind) (a:Int):convert CC h 5 3 (.s (.int k a))=some (.s (.int .i64 (wrapF .i64 a))):=of_eq (by kernel_rfl)
@[simp] theorem dl188 (h:Heap) (b:Nat) (k:V):mapDelete CC h 188 (.map b) k=mapDeleteW (.int .i64) h b k:=of_eq (by kernel_rfl)
@[simp] theorem eq121 (c:Bool) (b o:Nat):binop CC .eql 121 c (.ptr b o) (.s (.pointer none))=some (.s (.bool false)):=of_eq (by kernel_rfl)
@[simp] theorem eq121z (c:Bool):binop CC .eql 121 c (.s (.pointer none)) (.s (.pointer none))=some (.s (.bool true)):=of_eq (by kernel_rfl)
@[simp] theorem eq20 (c:Bool) (b:TypeId) (o:V):binop CC .eql 20 c (.iface b o) (.s .nilIface)=some (.s (.bool false)):=of_eq (by kernel_rfl)
@[simp] theorem eq20n (c:Bool) (b:TypeId) (o:V):binop CC .neq 20 c (.iface b o) (.s .nilIface)=some (.s (.bool true)):=of_eq (by kernel_rfl)
@[simp] theorem eq30 (c:Bool) (b o l cc:Nat) (p:Bool):binop CC .eql 30 c (.slice b o l cc p) (.s (.slice none 0 0))=some (.s (.bool false)):=of_eq (by kernel_rfl)
@[simp] theorem eq30z (c:Bool):binop CC .eql 30 c (.s (.slice none 0 0)) (.s (.slice none 0 0))=some (.s (.bool true)):=of_eq (by kernel_rfl)
@[simp] theorem fa120_0 (b o:Nat):rFA CC 120 0 (.ptr b o)=some (.ptr b (o+0)):=of_eq (by kernel_rfl)
@[simp] theorem fa120_1 (b o:Nat):rFA CC 120 1 (.ptr b o)=some (.ptr b (o+1)):=of_eq (by kernel_rfl)
@[simp] theorem fa120_2 (b o:Nat):rFA CC 120 2 (.ptr b o)=some (.ptr b (o+2)):=of_eq (by kernel_rfl)
@[simp] theorem fa120_3 (b o:Nat):rFA CC 120 3 (.ptr b o)=some (.ptr b (o+3)):=of_eq (by kernel_rfl)
@[simp] theorem fa131_0 (b o:Nat):rFA CC 131 0 (.ptr b o)=some (.ptr b (o+0)):=of_eq (by kernel_rfl)
@[simp] theorem fa131_1 (b o:Nat):rFA CC 131 1 (.ptr b o)=some (.ptr b (o+4)):=of_eq (by kernel_rfl)
@[simp] theorem fa131_2 (b o:Nat):rFA CC 131 2 (.ptr b o)=some (.ptr b (o+5)):=of_eq (by kernel_rfl)
@[simp] theorem fa190_0 (b o:Nat):rFA CC 190 0 (.ptr b o)=some (.ptr b (o+0)):=of_eq (by kernel_rfl)
@[simp] theorem fa190_1 (b o:Nat):rFA CC 190 1 (.ptr b o)=some (.ptr b (o+1)):=of_eq (by kernel_rfl)
@[simp] theorem fa198_0 (b o:Nat):rFA CC 198 0 (.ptr b o)=some (.ptr b (o+0)):=of_eq (by kernel_rfl)
@[simp] theorem fa198_1 (b o:Nat):rFA CC 198 1 (.ptr b o)=some (.ptr b (o+1)):=of_eq (by kernel_rfl)
@[simp] theorem fa200_0 (b o:Nat):rFA CC 200 0 (.ptr b o)=some (.ptr b (o+0)):=of_eq (by kernel_rfl)
@[simp] theorem fa200_1 (b o:Nat):rFA CC 200 1 (.ptr b o)=some (.ptr b (o+1)):=of_eq (by kernel_rfl)
@[simp] theorem fa200_2 (b o:Nat):rFA CC 200 2 (.ptr b o)=some (.ptr b (o+2)):=of_eq (by kernel_rfl)
@[simp] theorem fa200_3 (b o:Nat):rFA CC 200 3 (.ptr b o)=some (.ptr b (o+5)):=of_eq (by kernel_rfl)
@[simp] theorem fa245_0 (b o:Nat):rFA CC 245 0 (.ptr b o)=some (.ptr b (o+0)):=of_eq (by kernel_rfl)
@[simp] theorem fa247_0 (b o:Nat):rFA CC 247 0 (.ptr b o)=some (.ptr b (o+0)):=of_eq (by kernel_rfl)
@[simp] theorem fa247_1 (b o:Nat):rFA CC 247 1 (.ptr b o)=some (.ptr b (o+1)):=of_eq (by kernel_rfl)
@[simp] theorem fa247_2 (b o:Nat):rFA CC 247 2 (.ptr b o)=some (.ptr b (o+2)):=of_eq (by kernel_rfl)
@[simp] theorem fa247_3 (b o:Nat):rFA CC 247 3 (.ptr b o)=some (.ptr b (o+3)):=of_eq (by kernel_rfl)
@[simp] theorem fa247_4 (b o:Nat):rFA CC 247 4 (.ptr b o)=some (.ptr b (o+4)):=of_eq (by kernel_rfl)
@[simp] theorem fa247_5 (b o:Nat):rFA CC 247 5 (.ptr b o)=some (.ptr b (o+5)):=of_eq (by kernel_rfl)
@[simp] theorem fa250_0 (b o:Nat):rFA CC 250 0 (.ptr b o)=some (.ptr b (o+0)):=of_eq (by kernel_rfl)
@[simp] theorem fa250_1 (b o:Nat):rFA CC 250 1 (.ptr b o)=some (.ptr b (o+1)):=of_eq (by kernel_rfl)
@[simp] theorem fa250_2 (b o:Nat):rFA CC 250 2 (.ptr b o)=some (.ptr b (o+2)):=of_eq (by kernel_rfl)
@[simp] theorem fa255_0 (b o:Nat):rFA CC 255 0 (.ptr b o)=some (.ptr b (o+0)):=of_eq (by kernel_rfl)
@[simp] theorem fa255_1 (b o:Nat):rFA CC 255 1 (.ptr b o)=some (.ptr b (o+1)):=of_eq (by kernel_rfl)
@[simp] theorem fa29_0 (b o:Nat):rFA CC 29 0 (.ptr b o)=some (.ptr b (o+0)):=of_eq (by kernel_rfl)
@[simp] theorem fa29_1 (b o:Nat):rFA CC 29 1 (.ptr b o)=some (.ptr b (o+1)):=of_eq (by kernel_rfl)
@[simp] theorem fa29_2 (b o:Nat):rFA CC 29 2 (.ptr b o)=some (.ptr b (o+2)):=of_eq (by kernel_rfl)
@[simp] theorem fa29_3 (b o:Nat):rFA CC 29 3 (.ptr b o)=some (.ptr b (o+3)):=of_eq (by kernel_rfl)
@[simp] theorem fa32_0 (b o:Nat):rFA CC 32 0 (.ptr b o)=some (.ptr b (o+0)):=of_eq (by kernel_rfl)
@[simp] theorem fa32_1 (b o:Nat):rFA CC 32 1 (.ptr b o)=some (.ptr b (o+1)):=of_eq (by kernel_rfl)
@[simp] theorem fa32_2 (b o:Nat):rFA CC 32 2 (.ptr b o)=some (.ptr b (o+2)):=of_eq (by kernel_rfl)
@[simp] theorem fa32_3 (b o:Nat):rFA CC 32 3 (.ptr b o)=some (.ptr b (o+3)):=of_eq (by kernel_rfl)
@[simp] theorem fa32_4 (b o:Nat):rFA CC 32 4 (.ptr b o)=some (.ptr b (o+4)):=of_eq (by kernel_rfl)
@[simp] theorem fa32_5 (b o:Nat):rFA CC 32 5 (.ptr b o)=some (.ptr b (o+5)):=of_eq (by kernel_rfl)
@[simp] theorem fa32_6 (b o:Nat):rFA CC 32 6 (.ptr b o)=some (.ptr b (o+6)):=of_eq (by kernel_rfl)
@[simp] theorem fa32_7 (b o:Nat):rFA CC 32 7 (.ptr b o)=some (.ptr b (o+7)):=of_eq (by kernel_rfl)
@[simp] theorem fa32_8 (b o:Nat):rFA CC 32 8 (.ptr b o)=some (.ptr b (o+11)):=of_eq (by kernel_rfl)
@[simp] theorem fa32_9 (b o:Nat):rFA CC 32 9 (.ptr b o)=some (.ptr b (o+12)):=of_eq (by kernel_rfl)
@[simp] theorem fa45_0 (b o:Nat):rFA CC 45 0 (.ptr b o)=some (.ptr b (o+0)):=of_eq (by kernel_rfl)
@[simp] theorem fa45_1 (b o:Nat):rFA CC 45 1 (.ptr b o)=some (.ptr b (o+1)):=of_eq (by kernel_rfl)
@[simp] theorem fv255_1 (r:Rope V):rF CC 255 1 (.agg r)=r.get 1:=of_eq (by kernel_rfl)
@[simp] theorem ix118 (b o l c:Nat) (p:Bool) (i:V):indexAddr CC 118 (.slice b o l c p) i=(asNat i).bind fun k=>bif Nat.blt k l then some (.ptr b (o+k*1)) else none:=of_eq (by kernel_rfl)
@[simp] theorem ix128 (b o l c:Nat) (p:Bool) (i:V):indexAddr CC 128 (.slice b o l c p) i=(asNat i).bind fun k=>bif Nat.blt k l then some (.ptr b (o+k*1)) else none:=of_eq (by kernel_rfl)
@[simp] theorem ix22 (b o l c:Nat) (p:Bool) (i:V):indexAddr CC 22 (.slice b o l c p) i=(asNat i).bind fun k=>bif Nat.blt k l then some (.ptr b (o+k*13)) else none:=of_eq (by kernel_rfl)
@[simp] theorem ix248 (b o l c:Nat) (p:Bool) (i:V):indexAddr CC 248 (.slice b o l c p) i=(asNat i).bind fun k=>bif Nat.blt k l then some (.ptr b (o+k*2)) else none:=of_eq (by kernel_rfl)
@[simp] theorem ix30 (b o l c:Nat) (p:Bool) (i:V):indexAddr CC 30 (.slice b o l c p) i=(asNat i).bind fun k=>bif Nat.blt k l then some (.ptr b (o+k*1)) else none:=of_eq (by kernel_rfl)
@[simp] theorem ix40 (b o l c:Nat) (p:Bool) (i:V):indexAddr CC 40 (.slice b o l c p) i=(asNat i).bind fun k=>bif Nat.blt k l then some (.ptr b (o+k*2)) else none:=of_eq (by kernel_rfl)
@[simp] theorem ix42 (b o l c:Nat) (p:Bool) (i:V):indexAddr CC 42 (.slice b o l c p) i=(asNat i).bind fun k=>bif Nat.blt k l then some (.ptr b (o+k*4)) else none:=of_eq (by kernel_rfl)
@[simp] theorem ix85 (b o l c:Nat) (p:Bool) (i:V):indexAddr CC 85 (.slice b o l c p) i=(asNat i).bind fun k=>bif Nat.blt k l then some (.ptr b (o+k*1)) else none:=of_eq (by kernel_rfl)
@[simp] theorem ld109 (h:Heap) (b o:Nat):rLoad CC 109 h (.ptr b o)=(cellsAt h b).bind fun c=>c.1.get o:=of_eq (by kernel_rfl)
@[simp] theorem ld115 (h:Heap) (b o:Nat):rLoad CC 115 h (.ptr b o)=(cellsAt h b).bind fun c=>bif Nat.ble (o+5) c.1.size then some (.agg (c.1.ext o 5)) else none:=of_eq (by kernel_rfl)
@[simp] theorem ld116 (h:Heap) (b o:Nat):rLoad CC 116 h (.ptr b o)=(cellsAt h b).bind fun c=>c.1.get o:=of_eq (by kernel_rfl)
@[simp] theorem ld118 (h:Heap) (b o:Nat):rLoad CC 118 h (.ptr b o)=(cellsAt h b).bind fun c=>c.1.get o:=of_eq (by kernel_rfl)
@[simp] theorem ld121 (h:Heap) (b o:Nat):rLoad CC 121 h (.ptr b o)=(cellsAt h b).bind fun c=>c.1.get o:=of_eq (by kernel_rfl)
@[simp] theorem ld182 (h:Heap) (b o:Nat):rLoad CC 182 h (.ptr b o)=(cellsAt h b).bind fun c=>c.1.get o:=of_eq (by kernel_rfl)
@[simp] theorem ld188 (h:Heap) (b o:Nat):rLoad CC 188 h (.ptr b o)=(cellsAt h b).bind fun c=>c.1.get o:=of_eq (by kernel_rfl)
@[simp] theorem ld196 (h:Heap) (b o:Nat):rLoad CC 196 h (.ptr b o)=(cellsAt h b).bind fun c=>c.1.get o:=of_eq (by kernel_rfl)
@[simp] theorem ld198 (h:Heap) (b o:Nat):rLoad CC 198 h (.ptr b o)=(cellsAt h b).bind fun c=>bif Nat.ble (o+3) c.1.size then some (.agg (c.1.ext o 3)) else none:=of_eq (by kernel_rfl)
@[simp] theorem ld20 (h:Heap) (b o:Nat):rLoad CC 20 h (.ptr b o)=(cellsAt h b).bind fun c=>c.1.get o:=of_eq (by kernel_rfl)
@[simp] theorem ld248 (h:Heap) (b o:Nat):rLoad CC 248 h (.ptr b o)=(cellsAt h b).bind fun c=>c.1.get o:=of_eq (by kernel_rfl)
@[simp] theorem ld255 (h:Heap) (b o:Nat):rLoad CC 255 h (.ptr b o)=(cellsAt h b).bind fun c=>bif Nat.ble (o+2) c.1.size then some (.agg (c.1.ext o 2)) else none:=of_eq (by kernel_rfl)
@[simp] theorem ld27 (h:Heap) (b o:Nat):rLoad CC 27 h (.ptr b o)=(cellsAt h b).bind fun c=>c.1.get o:=of_eq (by kernel_rfl)
@[simp] theorem ld29 (h:Heap) (b o:Nat):rLoad CC 29 h (.ptr b o)=(cellsAt h b).bind fun c=>bif Nat.ble (o+4) c.1.size then some (.agg (c.1.ext o 4)) else none:=of_eq (by kernel_rfl)
@[simp] theorem ld3 (h:Heap) (b o:Nat):rLoad CC 3 h (.ptr b o)=(cellsAt h b).bind fun c=>c.1.get o:=of_eq (by kernel_rfl)
@[simp] theorem ld30 (h:Heap) (b o:Nat):rLoad CC 30 h (.ptr b o)=(cellsAt h b).bind fun c=>c.1.get o:=of_eq (by kernel_rfl)
@[simp] theorem ld313 (h:Heap) (b o:Nat):rLoad CC 313 h (.ptr b o)=(cellsAt h b).bind fun c=>c.1.get o:=of_eq (by kernel_rfl)
@[simp] theorem ld32 (h:Heap) (b o:Nat):rLoad CC 32 h (.ptr b o)=(cellsAt h b).bind fun c=>bif Nat.ble (o+13) c.1.size then some (.agg (c.1.ext o 13)) else none:=of_eq (by kernel_rfl)
@[simp] theorem ld4 (h:Heap) (b o:Nat):rLoad CC 4 h (.ptr b o)=(cellsAt h b).bind fun c=>c.1.get o:=of_eq (by kernel_rfl)
@[simp] theorem ld5 (h:Heap) (b o:Nat):rLoad CC 5 h (.ptr b o)=(cellsAt h b).bind fun c=>c.1.get o:=of_eq (by kernel_rfl)
@[simp] theorem ld85 (h:Heap) (b o:Nat):rLoad CC 85 h (.ptr b o)=(cellsAt h b).bind fun c=>c.1.get o:=of_eq (by kernel_rfl)
@[simp] theorem ld9 (h:Heap) (b o:Nat):rLoad CC 9 h (.ptr b o)=(cellsAt h b).bind fun c=>c.1.get o:=of_eq (by kernel_rfl)
@[simp] theorem len118 (h:Heap) (b o l c:Nat) (p:Bool):lenV CC h 118 (.slice b o l c p)=some (.s (.int .i64 (l:Int))):=of_eq (by kernel_rfl)
@[simp] theorem len128 (h:Heap) (b o l c:Nat) (p:Bool):lenV CC h 128 (.slice b o l c p)=some (.s (.int .i64 (l:Int))):=of_eq (by kernel_rfl)
@[simp] theorem len22 (h:Heap) (b o l c:Nat) (p:Bool):lenV CC h 22 (.slice b o l c p)=some (.s (.int .i64 (l:Int))):=of_eq (by kernel_rfl)
@[simp] theorem len248 (h:Heap) (b o l c:Nat) (p:Bool):lenV CC h 248 (.slice b o l c p)=some (.s (.int .i64 (l:Int))):=of_eq (by kernel_rfl)
@[simp] theorem len30 (h:Heap) (b o l c:Nat) (p:Bool):lenV CC h 30 (.slice b o l c p)=some (.s (.int .i64 (l:Int))):=of_eq (by kernel_rfl)
@[simp] theorem len40 (h:Heap) (b o l c:Nat) (p:Bool):lenV CC h 40 (.slice b o l c p)=some (.s (.int .i64 (l:Int))):=of_eq (by kernel_rfl)
@[simp] theorem len42 (h:Heap) (b o l c:Nat) (p:Bool):lenV CC h 42 (.slice b o l c p)=some (.s (.int .i64 (l:Int))):=of_eq (by kernel_rfl)
@[simp] theorem len85 (h:Heap) (b o l c:Nat) (p:Bool):lenV CC h 85 (.slice b o l c p)=some (.s (.int .i64 (l:Int))):=of_eq (by kernel_rfl)
@[simp] theorem lenn118 (h:Heap):lenV CC h 118 (.s (.slice none 0 0))=some (.s (.int .i64 0)):=of_eq (by kernel_rfl)
@[simp] theorem lenn128 (h:Heap):lenV CC h 128 (.s (.slice none 0 0))=some (.s (.int .i64 0)):=of_eq (by kernel_rfl)
@[simp] theorem lenn248 (h:Heap):lenV CC h 248 (.s (.slice none 0 0))=some (.s (.int .i64 0)):=of_eq (by kernel_rfl)
@[simp] theorem lenn30 (h:Heap):lenV CC h 30 (.s (.slice none 0 0))=some (.s (.int .i64 0)):=of_eq (by kernel_rfl)
@[simp] theorem lenn40 (h:Heap):lenV CC h 40 (.s (.slice none 0 0))=some (.s (.int .i64 0)):=of_eq (by kernel_rfl)
@[simp] theorem lenn42 (h:Heap):lenV CC h 42 (.s (.slice none 0 0))=some (.s (.int .i64 0)):=of_eq (by kernel_rfl)
@[simp] theorem lenn85 (h:Heap):lenV CC h 85 (.s (.slice none 0 0))=some (.s (.int .i64 0)):=of_eq (by kernel_rfl)
@[simp] theorem lk188 (h:Heap) (m k:V) (ok:Bool):lookup CC h 188 m k ok=lookupW (.int .i64) (zv CC 194) h m k ok:=of_eq (by kernel_rfl)
@[simp] theorem max3 (a b:Int):rMax CC #[3,3] 3 [.s (.int .i64 a),.s (.int .i64 b)]=some (.s (.int .i64 (maxW a b))):=of_eq (by kernel_rfl)
@[simp] theorem min3 (a b:Int):rMin CC #[3,3] 3 [.s (.int .i64 a),.s (.int .i64 b)]=some (.s (.int .i64 (minW a b))):=of_eq (by kernel_rfl)
@[simp] theorem mu188 (h:Heap) (b:Nat) (k v:V):mapUpdate CC h 188 (.map b) k v=mapUpdateW (.int .i64) h b k v:=of_eq (by kernel_rfl)
@[simp] theorem sl248 (b o l c:Nat) (p:Bool) (lo hi mx:Option V):sliceOp CC 248 (.slice b o l c p) lo hi mx=(bounds l c lo hi mx).bind fun q=>some (.slice b (o+q.1*2) (q.2.1-q.1) (q.2.2-q.1) (p && mx.isNone)):=of_eq (by kernel_rfl)
@[simp] theorem sl30 (b o l c:Nat) (p:Bool) (lo hi mx:Option V):sliceOp CC 30 (.slice b o l c p) lo hi mx=(bounds l c lo hi mx).bind fun q=>some (.slice b (o+q.1*1) (q.2.1-q.1) (q.2.2-q.1) (p && mx.isNone)):=of_eq (by kernel_rfl)
@[simp] theorem sto109 (h:Heap) (b o:Nat) (v:V):store CC h 109 b o v=v.cells.bind fun cs=>bif Nat.beq cs.size 1 then storeCells h b o cs else none:=of_eq (by kernel_rfl)
@[simp] theorem sto118 (h:Heap) (b o:Nat) (v:V):store CC h 118 b o v=v.cells.bind fun cs=>bif Nat.beq cs.size 1 then storeCells h b o cs else none:=of_eq (by kernel_rfl)
@[simp] theorem sto198 (h:Heap) (b o:Nat) (v:V):store CC h 198 b o v=v.cells.bind fun cs=>bif Nat.beq cs.size 3 then storeCells h b o cs else none:=of_eq (by kernel_rfl)
@[simp] theorem sto20 (h:Heap) (b o:Nat) (v:V):store CC h 20 b o v=v.cells.bind fun cs=>bif Nat.beq cs.size 1 then storeCells h b o cs else none:=of_eq (by kernel_rfl)
@[simp] theorem sto248 (h:Heap) (b o:Nat) (v:V):store CC h 248 b o v=v.cells.bind fun cs=>bif Nat.beq cs.size 1 then storeCells h b o cs else none:=of_eq (by kernel_rfl)
@[simp] theorem sto255 (h:Heap) (b o:Nat) (v:V):store CC h 255 b o v=v.cells.bind fun cs=>bif Nat.beq cs.size 2 then storeCells h b o cs else none:=of_eq (by kernel_rfl)
@[simp] theorem sto3 (h:Heap) (b o:Nat) (v:V):store CC h 3 b o v=v.cells.bind fun cs=>bif Nat.beq cs.size 1 then storeCells h b o cs else none:=of_eq (by kernel_rfl)
@[simp] theorem sto30 (h:Heap) (b o:Nat) (v:V):store CC h 30 b o v=v.cells.bind fun cs=>bif Nat.beq cs.size 1 then storeCells h b o cs else none:=of_eq (by kernel_rfl)
@[simp] theorem sto313 (h:Heap) (b o:Nat) (v:V):store CC h 313 b o v=v.cells.bind fun cs=>bif Nat.beq cs.size 1 then storeCells h b o cs else none:=of_eq (by kernel_rfl)
@[simp] theorem sto4 (h:Heap) (b o:Nat) (v:V):store CC h 4 b o v=v.cells.bind fun cs=>bif Nat.beq cs.size 1 then storeCells h b o cs else none:=of_eq (by kernel_rfl)
@[simp] theorem sto5 (h:Heap) (b o:Nat) (v:V):store CC h 5 b o v=v.cells.bind fun cs=>bif Nat.beq cs.size 1 then storeCells h b o cs else none:=of_eq (by kernel_rfl)
@[simp] theorem sto85 (h:Heap) (b o:Nat) (v:V):store CC h 85 b o v=v.cells.bind fun cs=>bif Nat.beq cs.size 1 then storeCells h b o cs else none:=of_eq (by kernel_rfl)
@[simp] theorem x197:CC.X.get 197=some false:=of_eq (by kernel_rfl)
@[simp] theorem z115:(zr CC 115).toList=[.s (.int .i64 0),.s (.int .i64 0),.s (.int .i64 0),.s (.int .i64 0),.s (.slice none 0 0)]:=of_eq (by kernel_rfl)
@[simp] theorem z120:(zr CC 120).toList=[.s (.pointer none),.s (.slice none 0 0),.s (.int .i64 0),.s (.slice none 0 0)]:=of_eq (by kernel_rfl)
@[simp] theorem z121:zr CC 121=.one (.s (.pointer none)):=of_eq (by kernel_rfl)
@[simp] theorem z131:(zr CC 131).toList=[.s (.int .i64 0),.s (.int .i64 0),.s (.int .i64 0),.s (.int .i64 0),.s .nilIface,.s (.slice none 0 0)]:=of_eq (by kernel_rfl)
@[simp] theorem z190:(zr CC 190).toList=[.s (.map none),.s (.int .i64 0)]:=of_eq (by kernel_rfl)
@[simp] theorem z198:(zr CC 198).toList=[.s (.complex .f64 0 0),.s (.int .i64 0),.s (.int .i64 0)]:=of_eq (by kernel_rfl)
@[simp] theorem z200:(zr CC 200).toList=[.s (.slice none 0 0),.s (.int .i64 0),.s (.complex .f64 0 0),.s (.int .i64 0),.s (.int .i64 0),.s (.bool false)]:=of_eq (by kernel_rfl)
@[simp] theorem z245:(zr CC 245).toList=[.s (.slice none 0 0)]:=of_eq (by kernel_rfl)
@[simp] theorem z247:(zr CC 247).toList=[.s (.int .i64 0),.s (.int .i64 0),.s (.int .i64 0),.s (.slice none 0 0),.s (.slice none 0 0),.s (.slice none 0 0)]:=of_eq (by kernel_rfl)
@[simp] theorem z250:(zr CC 250).toList=[.s (.int .i64 0),.s (.int .i64 0),.s (.slice none 0 0)]:=of_eq (by kernel_rfl)
@[simp] theorem z255:(zr CC 255).toList=[.s (.string ⟨#[]⟩),.s (.int .i64 0)]:=of_eq (by kernel_rfl)
@[simp] theorem z29:(zr CC 29).toList=[.s (.int .i64 0),.s (.int .i64 0),.s (.int .i64 0),.s (.int .i64 0)]:=of_eq (by kernel_rfl)
@[simp] theorem z3:zr CC 3=.one (.s (.int .i64 0)):=of_eq (by kernel_rfl)
@[simp] theorem z30:zr CC 30=.one (.s (.slice none 0 0)):=of_eq (by kernel_rfl)
@[simp] theorem z313:zr CC 313=.one (.s (.int .u64 0)):=of_eq (by kernel_rfl)
@[simp] theorem z45:(zr CC 45).toList=[.s (.slice none 0 0),.s (.slice none 0 0)]:=of_eq (by kernel_rfl)
@[simp] theorem z5:zr CC 5=.one (.s (.int .u8 0)):=of_eq (by kernel_rfl)
@[simp] theorem bd115 (ps:List (Nat×V)):normO (build CC 115 ps)=bOr (fillL [(0,1),(1,1),(2,1),(3,1),(4,1)] (zr CC 115).toList ps) (bFall CC 115 ps):=by
 refine bd_of fun l hl=>?_
 refine @build_struct CC 115 ((Ev.ty CC 115).get!) (zr CC 115) [(0,1),(1,1),(2,1),(3,1),(4,1)] ?_ ?_ ?_ ?_ (zr CC 115).toList (Eq.refl _) ps l hl
 ·kernel_rfl
 ·kernel_rfl
 ·kernel_rfl
 ·kernel_rfl
@[simp] theorem bd120 (ps:List (Nat×V)):normO (build CC 120 ps)=bOr (fillL [(0,1),(1,1),(2,1),(3,1)] (zr CC 120).toList ps) (bFall CC 120 ps):=by
 refine bd_of fun l hl=>?_
 refine @build_struct CC 120 ((Ev.ty CC 120).get!) (zr CC 120) [(0,1),(1,1),(2,1),(3,1)] ?_ ?_ ?_ ?_ (zr CC 120).toList (Eq.refl _) ps l hl
 ·kernel_rfl
 ·kernel_rfl
 ·kernel_rfl
 ·kernel_rfl
@[simp] theorem bd131 (ps:List (Nat×V)):normO (build CC 131 ps)=bOr (fillL [(0,4),(4,1),(5,1)] (zr CC 131).toList ps) (bFall CC 131 ps):=by
 refine bd_of fun l hl=>?_
 refine @build_struct CC 131 ((Ev.ty CC 131).get!) (zr CC 131) [(0,4),(4,1),(5,1)] ?_ ?_ ?_ ?_ (zr CC 131).toList (Eq.refl _) ps l hl
 ·kernel_rfl
 ·kernel_rfl
 ·kernel_rfl
 ·kernel_rfl
@[simp] theorem bd190 (ps:List (Nat×V)):normO (build CC 190 ps)=bOr (fillL [(0,1),(1,1)] (zr CC 190).toList ps) (bFall CC 190 ps):=by
 refine bd_of fun l hl=>?_
 refine @build_struct CC 190 ((Ev.ty CC 190).get!) (zr CC 190) [(0,1),(1,1)] ?_ ?_ ?_ ?_ (zr CC 190).toList (Eq.refl _) ps l hl
 ·kernel_rfl
 ·kernel_rfl
 ·kernel_rfl
 ·kernel_rfl
@[simp] theorem bd198 (ps:List (Nat×V)):normO (build CC 198 ps)=bOr (fillL [(0,1),(1,1),(2,1)] (zr CC 198).toList ps) (bFall CC 198 ps):=by
 refine bd_of fun l hl=>?_
 refine @build_struct CC 198 ((Ev.ty CC 198).get!) (zr CC 198) [(0,1),(1,1),(2,1)] ?_ ?_ ?_ ?_ (zr CC 198).toList (Eq.refl _) ps l hl
 ·kernel_rfl
 ·kernel_rfl
 ·kernel_rfl
 ·kernel_rfl
@[simp] theorem bd200 (ps:List (Nat×V)):normO (build CC 200 ps)=bOr (fillL [(0,1),(1,1),(2,3),(5,1)] (zr CC 200).toList ps) (bFall CC 200 ps):=by
 refine bd_of fun l hl=>?_
 refine @build_struct CC 200 ((Ev.ty CC 200).get!) (zr CC 200) [(0,1),(1,1),(2,3),(5,1)] ?_ ?_ ?_ ?_ (zr CC 200).toList (Eq.refl _) ps l hl
 ·kernel_rfl
 ·kernel_rfl
 ·kernel_rfl
 ·kernel_rfl
@[simp] theorem bd245 (ps:List (Nat×V)):normO (build CC 245 ps)=bOr (fillL [(0,1)] (zr CC 245).toList ps) (bFall CC 245 ps):=by
 refine bd_of fun l hl=>?_
 refine @build_struct CC 245 ((Ev.ty CC 245).get!) (zr CC 245) [(0,1)] ?_ ?_ ?_ ?_ (zr CC 245).toList (Eq.refl _) ps l hl
 ·kernel_rfl
 ·kernel_rfl
 ·kernel_rfl
 ·kernel_rfl
@[simp] theorem bd247 (ps:List (Nat×V)):normO (build CC 247 ps)=bOr (fillL [(0,1),(1,1),(2,1),(3,1),(4,1),(5,1)] (zr CC 247).toList ps) (bFall CC 247 ps):=by
 refine bd_of fun l hl=>?_
 refine @build_struct CC 247 ((Ev.ty CC 247).get!) (zr CC 247) [(0,1),(1,1),(2,1),(3,1),(4,1),(5,1)] ?_ ?_ ?_ ?_ (zr CC 247).toList (Eq.refl _) ps l hl
 ·kernel_rfl
 ·kernel_rfl
 ·kernel_rfl
 ·kernel_rfl
@[simp] theorem bd250 (ps:List (Nat×V)):normO (build CC 250 ps)=bOr (fillL [(0,1),(1,1),(2,1)] (zr CC 250).toList ps) (bFall CC 250 ps):=by
 refine bd_of fun l hl=>?_
 refine @build_struct CC 250 ((Ev.ty CC 250).get!) (zr CC 250) [(0,1),(1,1),(2,1)] ?_ ?_ ?_ ?_ (zr CC 250).toList (Eq.refl _) ps l hl
 ·kernel_rfl
 ·kernel_rfl
 ·kernel_rfl
 ·kernel_rfl
@[simp] theorem bd255 (ps:List (Nat×V)):normO (build CC 255 ps)=bOr (fillL [(0,1),(1,1)] (zr CC 255).toList ps) (bFall CC 255 ps):=by
 refine bd_of fun l hl=>?_
 refine @build_struct CC 255 ((Ev.ty CC 255).get!) (zr CC 255) [(0,1),(1,1)] ?_ ?_ ?_ ?_ (zr CC 255).toList (Eq.refl _) ps l hl
 ·kernel_rfl
 ·kernel_rfl
 ·kernel_rfl
 ·kernel_rfl
@[simp] theorem bd45 (ps:List (Nat×V)):normO (build CC 45 ps)=bOr (fillL [(0,1),(1,1)] (zr CC 45).toList ps) (bFall CC 45 ps):=by
 refine bd_of fun l hl=>?_
 refine @build_struct CC 45 ((Ev.ty CC 45).get!) (zr CC 45) [(0,1),(1,1)] ?_ ?_ ?_ ?_ (zr CC 45).toList (Eq.refl _) ps l hl
 ·kernel_rfl
 ·kernel_rfl
 ·kernel_rfl
 ·kernel_rfl
theorem fk121_1_z:((Rope.one (V.s (.pointer none))).rep 1).toList=(List.replicate 1 (Rope.one (V.s (.pointer none))).toList).flatten:=by kernel_rfl
@[simp] theorem fk121_1 (ps:List (Nat×V)) (K:List V→Prop):fillK 1 ((Rope.one (V.s (.pointer none))).rep 1) ps K=fillLK (fillL [(0,1)] (List.replicate 1 (Rope.one (V.s (.pointer none))).toList).flatten ps) K (fillKF 1 ((Rope.one (V.s (.pointer none))).rep 1) ps K):=
 fillK_eq (offs:=[(0,1)]) (fun k p hk=>by have:=offsAB_spec (show offsAB 1 0 [(0,1)]=true by kernel_rfl) k p hk; simpa using this) (by kernel_rfl) fk121_1_z ps K
theorem fk29_1_z:((zr CC 29).rep 1).toList=(List.replicate 1 (zr CC 29).toList).flatten:=by kernel_rfl
@[simp] theorem fk29_1 (ps:List (Nat×V)) (K:List V→Prop):fillK 4 ((zr CC 29).rep 1) ps K=fillLK (fillL [(0,4)] (List.replicate 1 (zr CC 29).toList).flatten ps) K (fillKF 4 ((zr CC 29).rep 1) ps K):=
 fillK_eq (offs:=[(0,4)]) (fun k p hk=>by have:=offsAB_spec (show offsAB 4 0 [(0,4)]=true by kernel_rfl) k p hk; simpa using this) (by kernel_rfl) fk29_1_z ps K
theorem fk30_1_z:((Rope.one (V.s (.slice none 0 0))).rep 1).toList=(List.replicate 1 (Rope.one (V.s (.slice none 0 0))).toList).flatten:=by kernel_rfl
@[simp] theorem fk30_1 (ps:List (Nat×V)) (K:List V→Prop):fillK 1 ((Rope.one (V.s (.slice none 0 0))).rep 1) ps K=fillLK (fillL [(0,1)] (List.replicate 1 (Rope.one (V.s (.slice none 0 0))).toList).flatten ps) K (fillKF 1 ((Rope.one (V.s (.slice none 0 0))).rep 1) ps K):=
 fillK_eq (offs:=[(0,1)]) (fun k p hk=>by have:=offsAB_spec (show offsAB 1 0 [(0,1)]=true by kernel_rfl) k p hk; simpa using this) (by kernel_rfl) fk30_1_z ps K
theorem fk3_1_z:((Rope.one (V.s (.int .i64 0))).rep 1).toList=(List.replicate 1 (Rope.one (V.s (.int .i64 0))).toList).flatten:=by kernel_rfl
@[simp] theorem fk3_1 (ps:List (Nat×V)) (K:List V→Prop):fillK 1 ((Rope.one (V.s (.int .i64 0))).rep 1) ps K=fillLK (fillL [(0,1)] (List.replicate 1 (Rope.one (V.s (.int .i64 0))).toList).flatten ps) K (fillKF 1 ((Rope.one (V.s (.int .i64 0))).rep 1) ps K):=
 fillK_eq (offs:=[(0,1)]) (fun k p hk=>by have:=offsAB_spec (show offsAB 1 0 [(0,1)]=true by kernel_rfl) k p hk; simpa using this) (by kernel_rfl) fk3_1_z ps K
theorem fk3_4_z:((Rope.one (V.s (.int .i64 0))).rep 4).toList=(List.replicate 4 (Rope.one (V.s (.int .i64 0))).toList).flatten:=by kernel_rfl
@[simp] theorem fk3_4 (ps:List (Nat×V)) (K:List V→Prop):fillK 1 ((Rope.one (V.s (.int .i64 0))).rep 4) ps K=fillLK (fillL [(0,1),(1,1),(2,1),(3,1)] (List.replicate 4 (Rope.one (V.s (.int .i64 0))).toList).flatten ps) K (fillKF 1 ((Rope.one (V.s (.int .i64 0))).rep 4) ps K):=
 fillK_eq (offs:=[(0,1),(1,1),(2,1),(3,1)]) (fun k p hk=>by have:=offsAB_spec (show offsAB 1 0 [(0,1),(1,1),(2,1),(3,1)]=true by kernel_rfl) k p hk; simpa using this) (by kernel_rfl) fk3_4_z ps K
theorem fk45_1_z:((zr CC 45).rep 1).toList=(List.replicate 1 (zr CC 45).toList).flatten:=by kernel_rfl
@[simp] theorem fk45_1 (ps:List (Nat×V)) (K:List V→Prop):fillK 2 ((zr CC 45).rep 1) ps K=fillLK (fillL [(0,2)] (List.replicate 1 (zr CC 45).toList).flatten ps) K (fillKF 2 ((zr CC 45).rep 1) ps K):=
 fillK_eq (offs:=[(0,2)]) (fun k p hk=>by have:=offsAB_spec (show offsAB 2 0 [(0,2)]=true by kernel_rfl) k p hk; simpa using this) (by kernel_rfl) fk45_1_z ps K
theorem fk5_0_z:((Rope.one (V.s (.int .u8 0))).rep 0).toList=(List.replicate 0 (Rope.one (V.s (.int .u8 0))).toList).flatten:=by kernel_rfl
@[simp] theorem fk5_0 (ps:List (Nat×V)) (K:List V→Prop):fillK 1 ((Rope.one (V.s (.int .u8 0))).rep 0) ps K=fillLK (fillL [] (List.replicate 0 (Rope.one (V.s (.int .u8 0))).toList).flatten ps) K (fillKF 1 ((Rope.one (V.s (.int .u8 0))).rep 0) ps K):=
 fillK_eq (offs:=[]) (fun k p hk=>by have:=offsAB_spec (show offsAB 1 0 []=true by kernel_rfl) k p hk; simpa using this) (by kernel_rfl) fk5_0_z ps K
theorem fk5_1_z:((Rope.one (V.s (.int .u8 0))).rep 1).toList=(List.replicate 1 (Rope.one (V.s (.int .u8 0))).toList).flatten:=by kernel_rfl
@[simp] theorem fk5_1 (ps:List (Nat×V)) (K:List V→Prop):fillK 1 ((Rope.one (V.s (.int .u8 0))).rep 1) ps K=fillLK (fillL [(0,1)] (List.replicate 1 (Rope.one (V.s (.int .u8 0))).toList).flatten ps) K (fillKF 1 ((Rope.one (V.s (.int .u8 0))).rep 1) ps K):=
 fillK_eq (offs:=[(0,1)]) (fun k p hk=>by have:=offsAB_spec (show offsAB 1 0 [(0,1)]=true by kernel_rfl) k p hk; simpa using this) (by kernel_rfl) fk5_1_z ps K
theorem fk5_4_z:((Rope.one (V.s (.int .u8 0))).rep 4).toList=(List.replicate 4 (Rope.one (V.s (.int .u8 0))).toList).flatten:=by kernel_rfl
@[simp] theorem fk5_4 (ps:List (Nat×V)) (K:List V→Prop):fillK 1 ((Rope.one (V.s (.int .u8 0))).rep 4) ps K=fillLK (fillL [(0,1),(1,1),(2,1),(3,1)] (List.replicate 4 (Rope.one (V.s (.int .u8 0))).toList).flatten ps) K (fillKF 1 ((Rope.one (V.s (.int .u8 0))).rep 4) ps K):=
 fillK_eq (offs:=[(0,1),(1,1),(2,1),(3,1)]) (fun k p hk=>by have:=offsAB_spec (show offsAB 1 0 [(0,1),(1,1),(2,1),(3,1)]=true by kernel_rfl) k p hk; simpa using this) (by kernel_rfl) fk5_4_z ps K
end Go.Ev
