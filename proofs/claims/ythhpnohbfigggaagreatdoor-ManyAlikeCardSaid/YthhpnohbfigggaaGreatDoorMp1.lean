/- Stepping through a function in company: frames by what their slots hold. No program in sight. -/
import Derived.Test.YthhpnohbfigggaaGreatDoorMo2
import Derived.Test.YthhpnohbfigggaaGreatDoorFwABCDE
import Derived.Test.YthhpnohbfigggaaGreatDoorFwFGH
import Derived.Conc.CompanyDraw
import Derived.Conc.AppendWalk
import Derived.Conc.SmallLaws
import Derived.Conc.WgWords
set_option linter.all false
set_option maxRecDepth 100000
namespace Go.Mn
open Go.Conc Go.ConcN Go.RowKit Go.Fw
open Go.ConcR (KK WgAt stA smA rd wr mk DC0)
theorem WX.rely{P:Program}{p:Ph}{q:Nat}{h:Option Nat}{ex:Bool}{S:Nat→Prop}{g:Goroutine}{W W1:World}(k:WX P p ⟨q,h,S,ex,g,W⟩)(hr:Rly p.ro S W W1):WX P p ⟨q,h,S,ex,g,W1⟩:=by
 obtain⟨r,k⟩:=k
 cases r with
 |leaf=>exact k.elim
 |node f=>
  refine WX.intro ?_
  have k':=StepW.mono (K':=WX P p) (fun y ⟨i,hy⟩=>⟨_,hy⟩) k
  refine⟨k'.1,?_⟩
  rcases k'.2 with k|⟨i,hi,k⟩|⟨hn,z,k⟩|⟨hn,he,k⟩
  ·exact .inl fun W2 r hl=>k W2 (hr.trans r) hl
  ·exact .inr (.inl ⟨i,hi,fun W2 r=>k W2 (hr.trans r)⟩)
  ·exact .inr (.inr (.inl ⟨hn,z,fun W2 r=>k W2 (hr.trans r)⟩))
  ·exact .inr (.inr (.inr ⟨hn,he,fun W2 r hl=>k W2 (hr.trans r) hl⟩))
structure Co(P:Program) where
 main:Bool
 ro:Nat→Prop
 K:(Nat→Prop)→Goroutine→World→Prop
 R:(Nat→Prop)→World→World→Prop
 rly:∀ {S:Nat→Prop} {W W1:World},R S W W1→Rly ro S W W1
 step:∀ {S:Nat→Prop} {g:Goroutine} {W:World},g.status=.running→(∀ W1,R S W W1→∃ g' W' es S',stepG P main g W1=.go g' W' es∧Gua ro S S' W1 W' es∧K S' g' W')→K S g W
 rely:∀ {S:Nat→Prop} {g:Goroutine} {W W1:World},K S g W→R S W W1→K S g W1
 draw:∀ {S:Nat→Prop} {W W1:World} {n:Nat},R S W W1→R S W {W1 with drawn:=n}
section
variable {P:Program}{Post:Value→World→Prop}
theorem gua_ev{RO S:Nat→Prop}{W:World}{es:Array Event}(h:∀ e∈es,EvG RO S e):Gua RO S S W W es:=⟨Nat.le_refl _,rfl,rfl,rfl,fun _ _ _ _=>rfl,fun _ _ _=>rfl,fun _ h=>h,fun _ h=>.inl h,h⟩
def coM(P:Program)(Post:Value→World→Prop)(tg:Tg):Co P where
 main:=true
 ro:=tg.ro
 K S g W:=MX P Post ⟨tg,S,g,W⟩
 R S W W1:=RM tg S W W1
 rly r:=r.1
 step hg h:=MX.intro hg (.loc fun W1 r=>h W1 ⟨r.rly,r.live⟩)
 rely k r:=MX.rely k ⟨r.1,r.2⟩
 draw r:=⟨⟨r.1.size,r.1.own,r.1.ro,r.1.so⟩,r.2⟩
def coW(P:Program)(p:Ph)(q:Nat)(h:Option Nat)(ex:Bool):Co P where
 main:=false
 ro:=p.ro
 K S g W:=WX P p ⟨q,h,S,ex,g,W⟩
 R S W W1:=RWk p S W W1
 rly r:=r.1
 step hg k:=WX.intro ⟨hg,.inl fun W1 r hl=>k W1 ⟨r,hl⟩⟩
 rely k r:=WX.rely k r.1
 draw r:=⟨⟨r.1.size,r.1.own,r.1.ro,r.1.so⟩,r.2⟩
end
def CE{P:Program}(X:Co P)(S:Nat→Prop)(W:World)(b:Frame)(nt:Nat)(env:Env)(items:List Item)(cs:List Frame):Prop:=
 ∀ a:Act,a.defers=[]→a.tmps.size=nt→z2g env a→X.K S (G (b.at a items) cs) W
section
variable {P:Program}{X:Co P}{S:Nat→Prop}{W:World}{b:Frame}{nt:Nat}{env env':Env}{k:List Item}{cs:List Frame}
theorem CE.weak(h:z81 env env')(k1:CE X S W b nt env' k cs):CE X S W b nt env k cs:=fun a d s e=>k1 a d s (e.subset h)
theorem CE.go{items items':List Item}(h:∀ (a:Act),z2g env a→∀ w,stepG P X.main (G (b.at a items) cs) w=.go (G (b.at a items') cs) w #[])(k1:CE X S W b nt env items' cs):CE X S W b nt env items cs:=fun a d s e=>
 X.step rfl fun W1 r=>⟨_,_,_,_,h a e W1,z6r,X.rely (k1 a d s e) r⟩
theorem CE.seq{x y:Code}(k1:CE X S W b nt env (.code x::.code y::k) cs):CE X S W b nt env (.code (.seq x y)::k) cs:=CE.go (fun _ _ _=>stepG_seq) k1
theorem CE.skip(k1:CE X S W b nt env k cs):CE X S W b nt env (.code .skip::k) cs:=CE.go (fun _ _ _=>stepG_skip) k1
theorem CE.block{n:Nat}{c:Code}(k1:CE X S W b nt env (.code c::.inBlock n::k) cs):CE X S W b nt env (.code (.block n c)::k) cs:=CE.go (fun _ _ _=>stepG_block) k1
theorem CE.loop{c:Code}(k1:CE X S W b nt env (.code c::.inLoop c::k) cs):CE X S W b nt env (.code (.loop c)::k) cs:=CE.go (fun _ _ _=>stepG_loop) k1
theorem CE.inBlock{n:Nat}(k1:CE X S W b nt env k cs):CE X S W b nt env (.inBlock n::k) cs:=CE.go (fun _ _ _=>stepG_inBlock) k1
theorem CE.inLoop{c:Code}(k1:CE X S W b nt env (.code c::.inLoop c::k) cs):CE X S W b nt env (.inLoop c::k) cs:=CE.go (fun _ _ _=>stepG_inLoop) k1
theorem CE.exit{n:Nat}{k':List Item}(h:exitTo n k=some k')(k1:CE X S W b nt env k' cs):CE X S W b nt env (.code (.exit n)::k) cs:=CE.go (fun _ _ _=>stepG_exit h) k1
theorem CE.cond{x:Operand}{A B:Code}{t:Bool}(hx:opv env x=some (.bool t))(k1:CE X S W b nt env (.code (if t then A else B)::k) cs):CE X S W b nt env (.code (.cond x A B)::k) cs:=CE.go (fun a e _=>stepG_cond (zf e hx)) k1
theorem CE.reg{id:Nat}{ops:Array Oper}(k1:CE X S W b nt env (.inRegion ops (List.range ops.size)::k) cs):CE X S W b nt env (.code (.region id ops false)::k) cs:=CE.go (fun _ _ _=>stepG_region) k1
theorem CE.regD{id:Nat}{ops:Array Oper}(hd:Region.departs ops=false)(k1:∀ t,CE X S W b nt env (.inRegion ops (Region.linearise .any ops t)::k) cs):CE X S W b nt env (.code (.region id ops true)::k) cs:=fun a h1 h2 e=>
 X.step rfl fun W1 r=>by
  have hst:=stepG_region_draw (P:=P) (main:=X.main) (b:=b) (a:=a) (k:=k) (cs:=cs) (w:=W1) (ops:=ops) (id:=id)
  have hs:∀ t,Region.schedule (P.follows .mixedOrders) ops t=Region.linearise .any ops t:=fun t=>by simp[Region.schedule,hd]
  rw[hs] at hst
  exact⟨_,_,_,S,hst,⟨Nat.le_refl _,rfl,rfl,rfl,fun _ _ _ _=>rfl,fun _ _ _=>rfl,fun _ h=>h,fun _ h=>.inl h,fun e he=>by simp at he⟩,X.rely (k1 _ a h1 h2 e) (X.draw r)⟩
theorem CE.regE{ops:Array Oper}(k1:CE X S W b nt env k cs):CE X S W b nt env (.inRegion ops []::k) cs:=CE.go (fun _ _ _=>stepG_region_end) k1
variable {ops:Array Oper}{i:Nat}{rest:List Nat}{d:Nat}{op:Op}{ty:TypeId}{pos:String}{af:Array Edge}{g:Option (Nat×Bool)}{v:Value}
theorem CE.skipO(ho:ops[i]?=some ⟨some d,op,ty,pos,af,g⟩)(hg:wanted ops env g=some false)(hd:Nat.blt d nt=true)(k1:CE X S W b nt (put env d undef) (.inRegion ops rest::k) cs):CE X S W b nt env (.inRegion ops (i::rest)::k) cs:=fun a h1 h2 e=>
 X.step rfl fun W1 r=>⟨_,_,_,_,stepG_unwanted ho (zw (o:=⟨some d,op,ty,pos,af,g⟩) e hg),z6r,X.rely (k1 (a.put (some d) undef) h1 (by simp[Act.put,h2]) (e.put undef (by rw[h2];exact Nat.le_of_ble_eq_true hd))) r⟩
theorem CE.val(hk:b.kind≠.early)(ho:ops[i]?=some ⟨some d,op,ty,pos,af,g⟩)(hg:wanted ops env g=some true)(hd:Nat.blt d nt=true)
  (hr:∀ a,z2g env a→∀ W1,X.R S W W1→(execOp a.eval ⟨some d,op,ty,pos,af,g⟩).run P W1=.ok (.value v) W1∧∀ e∈(execOp a.eval ⟨some d,op,ty,pos,af,g⟩).events P W1 #[],EvG X.ro S e)
  (k1:CE X S W b nt (put env d v) (.inRegion ops rest::k) cs):CE X S W b nt env (.inRegion ops (i::rest)::k) cs:=fun a h1 h2 e=>
 X.step rfl fun W1 r=>⟨_,_,_,_,stepG_value ho (zw (o:=⟨some d,op,ty,pos,af,g⟩) e hg) hk (hr a e W1 r).1,gua_ev fun e' he=>(hr a e W1 r).2 e' (mem_listed he),X.rely (k1 (a.put (some d) v) h1 (by simp[Act.put,h2]) (e.put v (by rw[h2];exact Nat.le_of_ble_eq_true hd))) r⟩
theorem CE.mv{x:Operand}(hk:b.kind≠.early)(ho:ops[i]?=some ⟨some d,.move x,ty,pos,af,g⟩)(hg:wanted ops env g=some true)(hd:Nat.blt d nt=true)(hx:opv env x=some v)
  (k1:CE X S W b nt (put env d v) (.inRegion ops rest::k) cs):CE X S W b nt env (.inRegion ops (i::rest)::k) cs:=
 CE.val hk ho hg hd (fun a e W1 _=>⟨by simp[execOp,zf e hx],fun e' he=>by simp[execOp,go_sem] at he⟩) k1
theorem CE.asg{x:Operand}(hk:b.kind≠.early)(ho:ops[i]?=some ⟨some d,.assign x,ty,pos,af,g⟩)(hg:wanted ops env g=some true)(hd:Nat.blt d nt=true)(hx:opv env x=some v)
  (k1:CE X S W b nt (put env d v) (.inRegion ops rest::k) cs):CE X S W b nt env (.inRegion ops (i::rest)::k) cs:=
 CE.val hk ho hg hd (fun a e W1 _=>⟨by simp[execOp,zf e hx],fun e' he=>by simp[execOp,go_sem] at he⟩) k1
theorem CE.ext{x:Operand}{vs:Array Value}{n:Nat}(hk:b.kind≠.early)(ho:ops[i]?=some ⟨some d,.extract x n,ty,pos,af,g⟩)(hg:wanted ops env g=some true)(hd:Nat.blt d nt=true)(hx:opv env x=some (.tuple vs))(hv:vs[n]?=some v)
  (k1:CE X S W b nt (put env d v) (.inRegion ops rest::k) cs):CE X S W b nt env (.inRegion ops (i::rest)::k) cs:=
 CE.val hk ho hg hd (fun a e W1 _=>⟨by simp[execOp,zf e hx,Instr.extract,hv],fun e' he=>by simp only[execOp,zf e hx,Instr.extract,hv] at he;simp[go_sem] at he⟩) k1
theorem CE.binI{bo:BinOp}{xt yt:TypeId}{x y:Operand}{kd:IntKind}{m n:Int}(hk:b.kind≠.early)(ho:ops[i]?=some ⟨some d,.binOp bo xt x y yt,ty,pos,af,g⟩)(hg:wanted ops env g=some true)(hd:Nat.blt d nt=true)
  (hx:opv env x=some (.int kd m))(hy:opv env y=some (.int kd n))(hv:Fw.binI bo kd m n=some v)
  (k1:CE X S W b nt (put env d v) (.inRegion ops rest::k) cs):CE X S W b nt env (.inRegion ops (i::rest)::k) cs:=
 CE.val hk ho hg hd (fun a e W1 _=>⟨by simp[execOp,zf e hx,zf e hy,eqGuard_at_int,zfe hv],fun e' he=>by
  simp only[execOp,zf e hx,zf e hy] at he
  cases bo<;>simp[Fw.binI] at hv<;>simp[eqGuard_at_int,go_sem,binOp_add,binOp_sub,binOp_mul,binOp_and,binOp_or,binOp_xor,binOp_andNot,binOp_eql,binOp_neq,binOp_lss,binOp_leq,binOp_gtr,binOp_geq,Op.intArith,intBits_and,intBits_or,intBits_xor,intBits_andNot] at he⟩) k1
theorem CE.lenS{x:Operand}{T E:TypeId}{ad:Option Addr}{n c:Nat}(hk:b.kind≠.early)(hT:P.underlying T=some (.slice E))(ho:ops[i]?=some ⟨some d,.call ⟨.builtin .len,#[x],#[T]⟩,ty,pos,af,g⟩)(hg:wanted ops env g=some true)(hd:Nat.blt d nt=true)(hx:opv env x=some (.slice ad n c))
  (k1:CE X S W b nt (put env d (.int .i64 n)) (.inRegion ops rest::k) cs):CE X S W b nt env (.inRegion ops (i::rest)::k) cs:=
 CE.val hk ho hg hd (fun a e W1 _=>⟨by simp[execOp,resolve,invoke,builtin,zf e hx,Builtin.len_,run_underlying hT,goInt],fun e' he=>by
  simp only[execOp,resolve,List.map_toArray,List.map_cons,List.map_nil,zf e hx] at he
  simp[invoke,builtin,Builtin.len_,run_underlying hT,goInt,go_sem] at he⟩) k1
theorem CE.pick{x y z:Operand}{t:Bool}(hk:b.kind≠.early)(ho:ops[i]?=some ⟨some d,.pick x y z,ty,pos,af,g⟩)(hg:wanted ops env g=some true)(hd:Nat.blt d nt=true)(hx:opv env x=some (.bool t))(hy:opv env (if t then y else z)=some v)
  (k1:CE X S W b nt (put env d v) (.inRegion ops rest::k) cs):CE X S W b nt env (.inRegion ops (i::rest)::k) cs:=
 CE.val hk ho hg hd (fun a e W1 _=>⟨by cases t<;>simp at hy<;>simp[execOp,zf e hx,asBool,zf e hy],fun e' he=>by simp only[execOp,zf e hx] at he;cases t<;>simp[asBool,go_sem] at he⟩) k1
end
open Go.ConcR (KK WgAt stA smA rd wr mk DC0)
theorem z59(W:World)(o:Obj):(W.alloc o).heap=W.heap.push o:=rfl
theorem gua_new{ro:Nat→Prop}{S:Nat→Prop}{W:World}{o:Obj}{es:Array Event}(hro:∀ b,ro b→b<W.heap.size)(he:∀ e∈es,EvG ro S e):Gua ro S (fun b=>S b∨b=W.heap.size) W (W.alloc o) es:=by
 have hs:(W.alloc o).heap.size=W.heap.size+1:=by rw[z59,Array.size_push]
 have ho:∀ b,b<W.heap.size→(W.alloc o).heap[b]?=W.heap[b]? := fun b h=>by rw[z59,Array.getElem?_push,if_neg (Nat.ne_of_lt h)]
 refine⟨by omega,rfl,rfl,rfl,fun b hb _ _=>ho b hb,fun b hb hs=>ho b (hro b hb),fun b=>.inl,fun b hb=>?_,fun e h=>?_⟩
 ·rcases hb with hb|rfl
  ·exact .inl hb
  ·exact .inr ⟨Nat.le_refl _,by omega⟩
 ·cases he e h with
  |cell h'=>exact .cell (h'.imp .inl id)
  |obj h'=>exact .obj (.inl h')
  |ext=>exact .ext
  |room=>exact .room
section
variable {P:Program}{X:Co P}{S:Nat→Prop}{W:World}{b:Frame}{nt:Nat}{env env':Env}{k:List Item}{cs:List Frame}
variable {ops:Array Oper}{i:Nat}{rest:List Nat}{d:Nat}{op:Op}{ty:TypeId}{pos:String}{af:Array Edge}{g:Option (Nat×Bool)}{v:Value}
theorem ev_new(o:Obj)(w:World)(es:Array Event):(Sem.new o Sem.pure).events P w es=es:=rfl
theorem za8{env:Env}{a:Act}{d:Nat}{v:Value}{nt:Nat}(h:z2g env a)(hs:a.tmps.size=nt)(hd:Nat.blt d nt=true):z2g (put env d v) (a.put (some d) v):=h.put v (by rw[hs];exact Nat.le_of_ble_eq_true hd)
structure Grew(ro S:Nat→Prop)(W W2:World)(B:Nat)(o:Obj):Prop where
 size:W.heap.size≤B
 size':W2.heap.size=B+1
 new:W2.heap[B]?=some o
 own:∀ b,S b→b<B→W2.heap[b]?=W.heap[b]?
 ro:∀ b,ro b→W2.heap[b]?=W.heap[b]?
theorem CE.new{o:Obj}{f:Nat→Value}(hro:∀ b,X.ro b→b<W.heap.size)(hk:b.kind≠.early)(ho:ops[i]?=some ⟨some d,op,ty,pos,af,g⟩)(hg:wanted ops env g=some true)(hd:Nat.blt d nt=true)
  (hr:∀ a,z2g env a→∀ W1,X.R S W W1→(execOp a.eval ⟨some d,op,ty,pos,af,g⟩).run P W1=.ok (.value (f W1.heap.size)) (W1.alloc o)∧∀ e∈(execOp a.eval ⟨some d,op,ty,pos,af,g⟩).events P W1 #[],EvG X.ro S e)
  (k1:∀ W2 B,Grew X.ro S W W2 B o→CE X (fun b=>S b∨b=B) W2 b nt (put env d (f B)) (.inRegion ops rest::k) cs):CE X S W b nt env (.inRegion ops (i::rest)::k) cs:=fun a h1 h2 e=>
 X.step rfl fun W1 r=>by
  have hr1:=X.rly r
  have hro1:∀ b,X.ro b→b<W1.heap.size:=fun b hb=>Nat.lt_of_lt_of_le (hro b hb) hr1.size
  refine⟨_,_,_,_,stepG_value ho (zw (o:=⟨some d,op,ty,pos,af,g⟩) e hg) hk (hr a e W1 r).1,gua_new hro1 fun e' he=>(hr a e W1 r).2 e' (mem_listed he),?_⟩
  have hs:(W1.alloc o).heap.size=W1.heap.size+1:=by rw[z59,Array.size_push]
  have hold:∀ b,b<W1.heap.size→(W1.alloc o).heap[b]?=W1.heap[b]? := fun b h=>by rw[z59,Array.getElem?_push,if_neg (Nat.ne_of_lt h)]
  exact k1 _ _ ⟨hr1.size,hs,by rw[z59,Array.getElem?_push,if_pos rfl],fun b hb hl=>(hold b hl).trans (hr1.own b hb),fun b hb=>(hold b (hro1 b hb)).trans (hr1.ro b hb)⟩
   (a.put (some d) (f W1.heap.size)) h1 (by simp[Act.put,h2]) (za8 e h2 hd)
theorem CE.box{x:Operand}{T:TypeId}(hro:∀ b,X.ro b→b<W.heap.size)(hk:b.kind≠.early)(ho:ops[i]?=some ⟨some d,.box T x,ty,pos,af,g⟩)(hg:wanted ops env g=some true)(hd:Nat.blt d nt=true)(hx:opv env x=some v)
  (k1:∀ W2 B,Grew X.ro S W W2 B (.cells v.cells T)→CE X (fun b=>S b∨b=B) W2 b nt (put env d (.pointer (some ⟨B,0,none⟩))) (.inRegion ops rest::k) cs):CE X S W b nt env (.inRegion ops (i::rest)::k) cs:=
 CE.new (f:=fun B=>.pointer (some ⟨B,0,none⟩)) hro hk ho hg hd (fun a e W1 _=>⟨by simp[execOp,Instr.box,zf e hx,newVar,newRow],fun e' he=>by simp[execOp,Instr.box,newVar,newRow,newObj,go_sem,ev_new] at he⟩) k1
theorem CE.alloc{T:TypeId}{ti:TypeInfo}{z:Value}(hT:P.info? T=some ti)(hz:ti.zero=some z)(hro:∀ b,X.ro b→b<W.heap.size)(hk:b.kind≠.early)(ho:ops[i]?=some ⟨some d,.alloc T,ty,pos,af,g⟩)(hg:wanted ops env g=some true)(hd:Nat.blt d nt=true)
  (k1:∀ W2 B,Grew X.ro S W W2 B (.cells z.cells T)→CE X (fun b=>S b∨b=B) W2 b nt (put env d (.pointer (some ⟨B,0,none⟩))) (.inRegion ops rest::k) cs):CE X S W b nt env (.inRegion ops (i::rest)::k) cs:=
 CE.new (f:=fun B=>.pointer (some ⟨B,0,none⟩)) hro hk ho hg hd (fun a e W1 _=>⟨by simp[execOp,Instr.alloc,zeroValue,typeInfo,hT,hz,newVar,newRow],fun e' he=>by simp[execOp,Instr.alloc,zeroValue,typeInfo,hT,hz,newVar,newRow,newObj,go_sem,ev_new] at he⟩) k1
theorem zdy{P:Program}(w:World)(t e:TypeId)(i:TypeInfo)(z:Value)(ht:P.underlying t=some (.slice e))(hi:P.info? e=some i)(hz:i.zero=some z)
  (kl kc:IntKind)(l c:Int)(h0:0≤l)(hlc:l≤c)(hbytes:(i.bytes:Int)*c≤281474976710656)(h63:c≤9223372036854775807) :
  ∀ e'∈(Instr.makeSlice t (.int kl l) (.int kc c)).events P w #[],e'=⟨.mark .noRoom,false,true⟩:=by
 by_cases hroom:c.toNat*i.bytes≤140737488355328
 ·rw[events_make w t e i z ht hi hz kl kc l c h0 hlc hbytes h63 hroom];simp
 have wl:IntKind.i64.wrap l=l:=by rw[IntKind.wrap_i64];omega
 have wc:IntKind.i64.wrap c=c:=by rw[IntKind.wrap_i64];omega
 have n1:¬ c<0:=by omega
 have n2:¬ (281474976710656<(i.bytes:Int)*c):=by omega
 have n3:¬ l<0:=by omega
 have n4:¬ c<l:=by omega
 have n5:140737488355328<c.toNat*i.bytes:=by omega
 intro e' he
 by_cases hn:c.toNat*i.size=0
 ·simp[Instr.makeSlice,run_underlying ht,asInt,asIntOf,typeInfo,hi,sizeOf,wl,wc,n1,n2,n3,n4,n5,hn,newRow,askRoom,roomBytes] at he
  exact he
 ·simp[Instr.makeSlice,run_underlying ht,asInt,asIntOf,typeInfo,hi,sizeOf,zeroValue,hz,wl,wc,n1,n2,n3,n4,n5,newRow,askRoom,roomBytes] at he
  exact he
theorem CE.mkS{T E:TypeId}{ti:TypeInfo}{z:Value}{x:Operand}{kd:IntKind}{n:Nat}(hT:P.underlying T=some (.slice E))(hi:P.info? E=some ti)(hz:ti.zero=some z)(hb:ti.bytes*n≤281474976710656)(hn:n≤5864062014805)(hro:∀ b,X.ro b→b<W.heap.size)(hk:b.kind≠.early)
  (ho:ops[i]?=some ⟨some d,.makeSlice T x x,ty,pos,af,g⟩)(hg:wanted ops env g=some true)(hd:Nat.blt d nt=true)(hx:opv env x=some (.int kd n))
  (k1:∀ W2 B,Grew X.ro S W W2 B (.cells (madeCells z.cells (n*ti.size)) E)→CE X (fun b=>S b∨b=B) W2 b nt (put env d (.slice (some ⟨B,0,none⟩) n n)) (.inRegion ops rest::k) cs):CE X S W b nt env (.inRegion ops (i::rest)::k) cs:=
 CE.new (f:=fun B=>.slice (some ⟨B,0,none⟩) n n) hro hk ho hg hd (fun a e W1 _=>by
  have hby:(ti.bytes:Int)*(n:Int)≤281474976710656:=by
   have:((ti.bytes*n:Nat):Int)≤281474976710656:=by omega
   rw[Int.natCast_mul] at this;omega
  have hr:=run_make (P:=P) W1 T E ti z hT hi hz kd kd n n (by omega) (Int.le_refl _) hby (by omega)
  have he:=zdy (P:=P) W1 T E ti z hT hi hz kd kd n n (by omega) (Int.le_refl _) hby (by omega)
  simp only[Int.toNat_natCast] at hr
  constructor
  ·simp only[execOp,zf e hx,Sem.run_bind,hr];rfl
  ·intro e' he'
   simp only[execOp,zf e hx,Sem.events_bind,hr] at he'
   have he':e'∈(Instr.makeSlice T (.int kd n) (.int kd n)).events P W1 #[]:=by simpa[Result.evThen] using he'
   rw[he e' he']
   exact .room) k1
theorem CE.mkC{T E:TypeId}{dir:ChanDir}{ti:TypeInfo}{x:Operand}{kd:IntKind}{n:Nat}(hT:P.underlying T=some (.chan dir E))(hi:P.info? E=some ti)(hb:ti.bytes*n≤281474976710544)(hn:n≤5864062014805)(hro:∀ b,X.ro b→b<W.heap.size)(hk:b.kind≠.early)
  (ho:ops[i]?=some ⟨some d,.makeChan T x,ty,pos,af,g⟩)(hg:wanted ops env g=some true)(hd:Nat.blt d nt=true)(hx:opv env x=some (.int kd n))
  (k1:∀ W2 B,Grew X.ro S W W2 B (.chan n #[] false 0 0 false)→CE X (fun b=>S b∨b=B) W2 b nt (put env d (.chan (some B))) (.inRegion ops rest::k) cs):CE X S W b nt env (.inRegion ops (i::rest)::k) cs:=
 CE.new (f:=fun B=>.chan (some B)) hro hk ho hg hd (fun a e W1 _=>by
  have hby:(ti.bytes:Int)*(n:Int)≤281474976710544:=by
   have:((ti.bytes*n:Nat):Int)≤281474976710544:=by omega
   rw[Int.natCast_mul] at this;omega
  have hr:=run_makeChan (P:=P) (w:=W1) hT hi kd n (by omega) hby
  have he:=events_makeChan (P:=P) (w:=W1) hT hi kd n (by omega) hby #[]
  constructor
  ·simp only[execOp,zf e hx,Sem.run_bind,hr];rfl
  ·intro e' he'
   simp only[execOp,zf e hx,Sem.events_bind,he,hr] at he'
   simp[Result.evThen] at he') k1
theorem CE.ld{x:Operand}{T:TypeId}{B o:Nat}(hE:Ln P T 1 false)(hB:S B∨X.ro B)(hk:b.kind≠.early)(ho:ops[i]?=some ⟨some d,.load T x,ty,pos,af,g⟩)(hg:wanted ops env g=some true)(hd:Nat.blt d nt=true)
  (hx:opv env x=some (.pointer (some ⟨B,o,none⟩)))(hc:W.cell? ⟨B,o,none⟩=some v)
  (k1:CE X S W b nt (put env d v) (.inRegion ops rest::k) cs):CE X S W b nt env (.inRegion ops (i::rest)::k) cs:=
 CE.val hk ho hg hd (fun a e W1 r=>by
  have hb:W1.heap[B]?=W.heap[B]? := hB.elim ((X.rly r).own B) ((X.rly r).ro B)
  have hc1:W1.cell? ⟨B,o,none⟩=some v:=by rw[← hc];unfold World.cell?;rw[hb]
  have hr:=z6v hE W1 B o [v] rfl (fun _=>rfl) (fun j u h=>by
   match j,h with
   |0,h=>simp at h;subst h;exact hc1)
  constructor
  ·simp only[execOp,zf e hx,Sem.run_bind,hr];rfl
  ·intro e' he
   have hev:(Instr.loadAt T (.pointer (some ⟨B,o,none⟩))).events P W1 #[]=#[⟨.cell ⟨B,o,none⟩,false,false⟩]:=by
    unfold Instr.loadAt Instr.sureAddr loadVar
    simp[Sem.events_bind,run_isAgg hE,Result.evThen,events_load,hc1]
   simp only[execOp,zf e hx,Sem.events_bind,hr,hev] at he
   simp[Result.evThen] at he
   subst he
   exact .cell (hB.imp id fun h=>⟨h,rfl⟩)) k1
structure Wrote(ro S:Nat→Prop)(W W2:World)(B:Nat)(o:Obj):Prop where
 size:W.heap.size≤W2.heap.size
 now:W2.heap[B]?=some o
 own:∀ b,S b→b≠B→W2.heap[b]?=W.heap[b]?
 ro:∀ b,ro b→b≠B→W2.heap[b]?=W.heap[b]?
theorem CE.st{x y:Operand}{T e:TypeId}{B:Nat}{u0:Value}(hE:Ln P T 1 false)(hB:S B)(hv:v.oneCell'=true)(hc:v.cells=#[v])(hk:b.kind≠.early)(ho:ops[i]?=some ⟨none,.store T x y,ty,pos,af,g⟩)(hg:wanted ops env g=some true)
  (hx:opv env x=some (.pointer (some ⟨B,0,none⟩)))(hy:opv env y=some v)(hw:W.heap[B]?=some (.cells #[u0] e (0,0)))
  (k1:∀ W2,Wrote X.ro S W W2 B (.cells #[v] e (0,0))→CE X S W2 b nt env (.inRegion ops rest::k) cs):CE X S W b nt env (.inRegion ops (i::rest)::k) cs:=fun a h1 h2 en=>
 X.step rfl fun W1 r=>by
  have hr1:=X.rly r
  have hw1:W1.heap[B]?=some (.cells #[u0] e (0,0)):=(hr1.own B hB).trans hw
  have hcell:W1.cell? ⟨B,0,none⟩=some u0:=by simp[World.cell?,hw1]
  have hfro:W1.frozen? ⟨B,0,none⟩=false:=by simp[World.frozen?,hw1]
  have hst:(store ⟨B,0,none⟩ v).run P W1=.ok () (W1.setRow B #[v]):=by
   rw[run_store P W1 _ v _ hv,hcell]
   simp[hfro,setCell_eq_setRow W1 B 0 #[u0] e (0,0) v hw1]
  have hev:(store ⟨B,0,none⟩ v).events P W1 #[]=#[⟨.cell ⟨B,0,none⟩,true,false⟩]:=by
   rw[events_store P W1 #[] _ v _ hv,hcell]
   simp only[hfro,Bool.false_eq_true,if_false]
   rfl
  have hadd:(⟨B,0,none⟩:Addr).add 0=⟨B,0,none⟩:=rfl
  have hrun:(Instr.storeAt T (.pointer (some ⟨B,0,none⟩)) v).run P W1=.ok () (W1.setRow B #[v]):=by
   unfold Instr.storeAt Instr.sureAddr storeVar
   simp[Sem.run_bind,Go.Fw.run_sizeOf hE,hc,storeCells,hadd,hst]
  have hevs:(Instr.storeAt T (.pointer (some ⟨B,0,none⟩)) v).events P W1 #[]=#[⟨.cell ⟨B,0,none⟩,true,false⟩]:=by
   unfold Instr.storeAt Instr.sureAddr storeVar
   simp[Sem.events_bind,Go.Fw.run_sizeOf hE,hc,storeCells,hadd,hst,hev,Result.evThen]
  have hval:(execOp a.eval ⟨none,.store T x y,ty,pos,af,g⟩).run P W1=.ok .skip (W1.setRow B #[v]):=by
   simp only[execOp,zf en hx,zf en hy,Sem.run_bind,hrun];rfl
  have hval':∀ e'∈(execOp a.eval ⟨none,.store T x y,ty,pos,af,g⟩).events P W1 #[],EvG X.ro S e':=fun e' he=>by
   simp only[execOp,zf en hx,zf en hy,Sem.events_bind,hevs,hrun] at he
   simp[Result.evThen] at he
   subst he
   exact .cell (.inl hB)
  have hsz:(W1.setRow B #[v]).heap.size=W1.heap.size:=by simp[World.setRow]
  refine⟨_,_,_,S,stepG_none ho (zw (o:=⟨none,.store T x y,ty,pos,af,g⟩) en hg) hk hval,⟨by omega,rfl,rfl,rfl,fun b hb hs _=>setRow_other W1 B b _ fun e=>hs (e▸hB),fun b hb hs=>setRow_other W1 B b _ fun e=>hs (e▸hB),fun _ h=>h,fun _ h=>.inl h,fun e' he=>hval' e' (mem_listed he)⟩,?_⟩
  exact k1 _ ⟨by have:=hr1.size;omega,setRow_heap W1 B _ _ e _ hw1,fun b hb hne=>(setRow_other W1 B b _ hne).trans (hr1.own b hb),fun b hb hne=>(setRow_other W1 B b _ hne).trans (hr1.ro b hb)⟩ (a.put none undef) h1 (by simpa[Act.put] using h2) (by simpa[Act.put] using en)
theorem CE.idx{x y:Operand}{T E:TypeId}{kd:IntKind}{B o n c m sz:Nat}{ag:Bool}(hT:P.underlying T=some (.slice E))(hE:Ln P E sz ag)(hk:b.kind≠.early)(ho:ops[i]?=some ⟨some d,.indexAddr T x y,ty,pos,af,g⟩)(hg:wanted ops env g=some true)(hd:Nat.blt d nt=true)
  (hx:opv env x=some (.slice (some ⟨B,o,none⟩) n c))(hy:opv env y=some (.int kd m))(hm:m<n)
  (k1:CE X S W b nt (put env d (.pointer (some ⟨B,o+m*sz,none⟩))) (.inRegion ops rest::k) cs):CE X S W b nt env (.inRegion ops (i::rest)::k) cs:=
 CE.val hk ho hg hd (fun a e W1 r=>by
  have h0:(0:Int)≤(m:Int):=by omega
  have h1:(m:Int)<(n:Int):=by omega
  constructor
  ·simp[execOp,zf e hx,zf e hy,Instr.indexAt,asIntOf,run_underlying hT,h0,h1,Go.Fw.run_sizeOf hE,z3h,hm]
  ·intro e' he
   simp only[execOp,zf e hx,zf e hy] at he
   simp[Instr.indexAt,asIntOf,run_underlying hT,h0,h1,Go.Fw.run_sizeOf hE,Result.evThen,Sem.events_bind,hm] at he) k1
theorem CE.mkF{f:Fn}{cap:Array Operand}{cv:List Value}(hk:b.kind≠.early)(ho:ops[i]?=some ⟨some d,.makeFunc f #[] cap,ty,pos,af,g⟩)(hg:wanted ops env g=some true)(hd:Nat.blt d nt=true)
  (hx:cap.toList.map (opv env)=cv.map some)(k1:CE X S W b nt (put env d (.func f #[] cv.toArray)) (.inRegion ops rest::k) cs):CE X S W b nt env (.inRegion ops (i::rest)::k) cs:=
 CE.val hk ho hg hd (fun a e W1 r=>by
  have hc:=zct e hx
  constructor
  ·simp[execOp,Instr.makeFunc,hc]
  ·intro e' he
   simp[execOp,Instr.makeFunc,go_sem] at he) k1
theorem CE.enter{f:Nat}{fn:Func}{c:Code}{as:Array Operand}{ats:Array TypeId}{vs:List Value}{dst:Option Nat}(hf:P.funcs[f]?=some fn)(hb:fn.body=some c)(hn:(fn.name == "runtime.NumGoroutine")=false)(hk:b.kind≠.early)
  (ho:ops[i]?=some ⟨dst,.call {callee:=.value (.func f),args:=as,argTypes:=ats},ty,pos,af,g⟩)(hg:wanted ops env g=some true)(hx:as.toList.map (opv env)=vs.map some)
  (k1:∀ a:Act,a.defers=[]→a.tmps.size=nt→z2g env a→X.K S (G ((base f).at {tmps:=vs.toArray++Array.replicate (fn.ntmps-vs.toArray.size) undef,defers:=[]} [.code c]) (b.at a (.inRegion ops (i::rest)::k)::cs)) W):CE X S W b nt env (.inRegion ops (i::rest)::k) cs:=fun a h1 h2 e=>
 X.step rfl fun W1 r=>by
  have hc:=zct e hx
  generalize vs.toArray=vs at hc k1
  have hval:(execOp a.eval ⟨dst,.call {callee:=.value (.func f),args:=as,argTypes:=ats},ty,pos,af,g⟩).run P W1=.ok (.enter f vs) W1:=by
   have hb':fn.body.isSome=true:=by rw[hb];rfl
   have hcf:(callFunc f vs).run P W1=.ok (.enter f vs) W1:=by
    unfold callFunc
    simp only[beq_iff_eq] at hn ⊢
    simp[hf,hb]
    intro h;simp[h] at hn
   rw[← hc] at hcf ⊢
   simp[execOp,resolve,Deferred.ofValue,invoke,Act.eval] at hcf ⊢
   exact hcf
  have hev:(execOp a.eval ⟨dst,.call {callee:=.value (.func f),args:=as,argTypes:=ats},ty,pos,af,g⟩).events P W1 #[]=#[]:=by
   have hb':fn.body.isSome=true:=by rw[hb];rfl
   have hcf:(callFunc f vs).events P W1 #[]=#[]:=by
    unfold callFunc
    simp only[beq_iff_eq] at hn ⊢
    simp[hf,hb]
   rw[← hc] at hcf
   simp[execOp,resolve,Deferred.ofValue,invoke,Act.eval] at hcf ⊢
   exact hcf
  refine⟨_,_,_,_,stepG_enter ho (zw (o:=⟨dst,.call {callee:=.value (.func f),args:=as,argTypes:=ats},ty,pos,af,g⟩) e hg) hk hval,gua_ev fun e' he=>(by have:=mem_listed he;rw[hev] at this;simp at this),?_⟩
  rw[enter_at vs hf hb]
  exact X.rely (k1 a h1 h2 e) r
end
open Go.ConcR (KK WgAt stA smA rd wr mk DC0)
theorem zeh{W:World}{c cap s r:Nat}{buf:Array Value}{cl tm:Bool}{o:Obj}(h:W.heap[c]?=some o):(W.setChan c cap buf cl s r tm).heap[c]?=some (.chan cap buf cl s r tm):=by
 have:=(Array.getElem?_eq_some_iff.1 h).1
 simp[World.setChan,this]
theorem zeg{W:World}{c cap s r b:Nat}{buf:Array Value}{cl tm:Bool}(h:b≠c):(W.setChan c cap buf cl s r tm).heap[b]?=W.heap[b]? := by simp[World.setChan,Array.getElem?_setIfInBounds_ne (Ne.symm h)]
section
variable {P:Program}{X:Co P}{S:Nat→Prop}{W:World}{b:Frame}{nt:Nat}{env env':Env}{k:List Item}{cs:List Frame}
variable {ops:Array Oper}{i:Nat}{rest:List Nat}{d:Nat}{op:Op}{ty:TypeId}{pos:String}{af:Array Edge}{g:Option (Nat×Bool)}{v:Value}
theorem CE.back{a:Act}{o:Oper}{v:Value}(ho:ops[i]?=some o)(hd:o.dst=some d)(hn:Nat.blt d nt=true)(h1:a.defers=[])(h2:a.tmps.size=nt)(h3:z2g env a)(k1:CE X S W b nt (put env d v) (.inRegion ops rest::k) cs):X.K S (G ((b.at a (.inRegion ops (i::rest)::k)).finish v) cs) W:=by
 have e:(b.at a (.inRegion ops (i::rest)::k)).finish v=b.at (a.put (some d) v) (.inRegion ops rest::k):=by rw[Frame.finish_at,ho];simp[hd]
 rw[e]
 exact k1 (a.put (some d) v) h1 (by simp[Act.put,h2]) (za8 h3 h2 hn)
theorem CE.leave{fn:Func}{c:Frame}{todo:List Item}(hn:b.kind=.normal)(hf:P.funcs[b.fn]?=some fn)(hr:∀ a:Act,z2g env a→∀ W,(results fn a.tmps).run P W=.ok v W∧(results fn a.tmps).events P W #[]=#[])(k1:X.K S (G (c.finish v) cs) W)
  {a:Act}(h1:a.defers=[])(h3:z2g env a):X.K S (G {b.at a todo with mode:=.returning} (c::cs)) W:=
 X.step rfl fun W1 r=>⟨_,_,_,_,stepG_leave hn h1 hf (hr a h3 W1).1 (hr a h3 W1).2,z6r,X.rely k1 r⟩
theorem CE.ret{fn:Func}{c:Frame}(hn:b.kind=.normal)(hf:P.funcs[b.fn]?=some fn)(hr:∀ a:Act,z2g env a→∀ W,(results fn a.tmps).run P W=.ok v W∧(results fn a.tmps).events P W #[]=#[])(k1:X.K S (G (c.finish v) cs) W) :
  CE X S W b nt env (.code .ret::k) (c::cs):=fun a h1 h2 h3=>
 X.step rfl fun W1 r=>⟨_,_,_,_,stepG_ret',z6r,X.rely (CE.leave hn hf hr k1 h1 h3) r⟩
theorem results2{fn:Func}{x y:Nat}{vx vy:Value}(hr:fn.results=#[.tmp x,.tmp y])(hx:Fw.look env x=some vx)(hy:Fw.look env y=some vy):∀ a:Act,z2g env a→∀ W,(results fn a.tmps).run P W=.ok (.tuple #[vx,vy]) W∧(results fn a.tmps).events P W #[]=#[]:=fun a e W=>by
 have h1:=e x vx hx
 have h2:=e y vy hy
 constructor
 ·simp[results,hr,h1,h2,go_sem]
 ·simp[results,hr,h1,h2,go_sem]
theorem zar{vs:List Value}{n:Nat}:z2g ((List.range vs.length).zip vs) {tmps:=vs.toArray++Array.replicate n undef,defers:=[]} := by
 have go:∀ (vs:List Value) (k t:Nat) (v:Value),Fw.look ((List.range' k vs.length).zip vs) t=some v→k≤t∧vs[t-k]?=some v:=by
  intro vs
  induction vs with
  |nil=>intro k t v h;simp[Fw.look] at h
  |cons u us ih=>
   intro k t v h
   simp only[List.length_cons,List.range'_succ,List.zip_cons_cons,Fw.look] at h
   split at h
   ·rename_i e;cases h;subst e;simp
   ·rename_i e
    obtain⟨h1,h2⟩:=ih _ _ _ h
    refine⟨by omega,?_⟩
    have:t-k=(t-(k+1))+1:=by omega
    rw[this];simpa using h2
 intro t v h
 rw[List.range_eq_range'] at h
 obtain⟨_,h2⟩:=go vs 0 t v h
 simp only[Nat.sub_zero] at h2
 have hl:=(List.getElem?_eq_some_iff.1 h2).1
 rw[Array.getElem?_append_left (by simpa using hl)]
 simpa using h2
end
section
variable {P:Program}{Post:Value→World→Prop}{S:Nat→Prop}{W:World}{b:Frame}{nt:Nat}{env env':Env}{k:List Item}{cs:List Frame}
variable {ops:Array Oper}{i:Nat}{rest:List Nat}{d:Nat}{op:Op}{ty:TypeId}{pos:String}{af:Array Edge}{g:Option (Nat×Bool)}{v:Value}
theorem CE.send{x y:Operand}{c cap s r:Nat}{buf:Array Value}(hk:b.kind≠.early)(ho:ops[i]?=some ⟨none,.send x y,ty,pos,af,g⟩)(hg:wanted ops env g=some true)(hx:opv env x=some (.chan (some c)))(hy:opv env y=some v)
  (hS:S c)(hc:W.heap[c]?=some (.chan cap buf false s r false))(hs:buf.size<cap)
  (k1:∀ W2,Wrote (fun _=>False) S W W2 c (.chan cap (buf.push v) false (s+1) r false)→CE (coM P Post .idle) S W2 b nt env (.inRegion ops rest::k) cs):CE (coM P Post .idle) S W b nt env (.inRegion ops (i::rest)::k) cs:=fun a h1 h2 e=>
 MX.intro rfl (.send fun W1 r1=>by
  have hc1:=(r1.own c hS).trans hc
  have hst:=stepG_comm (P:=P) (main:=true) (k:=k) (cs:=cs) (rest:=rest) (w:=W1) (w':=W1) (cases:=#[scase c v (.tuple #[])]) (blocking:=true) (shape:=.send) ho (zw (o:=⟨none,.send x y,ty,pos,af,g⟩) e hg) hk (by simp[execOp,zf e hx,zf e hy,scase])
  have hl:listed P b.fn a ⟨none,.send x y,ty,pos,af,g⟩ W1=#[]:=by unfold listed;rw[show(execOp a.eval ⟨none,.send x y,ty,pos,af,g⟩).events P W1 #[]=#[] by simp[execOp,go_sem]];exact seen_none _ _
  rw[hl] at hst
  refine⟨_,c,v,_,cap,buf,s,r,hS,hc1,hs,hst,?_⟩
  have e2:Go.Conc.served (G (b.at a (.inRegion ops (i::rest)::k)) cs) undef=G (b.at (a.put none undef) (.inRegion ops rest::k)) cs:=by
   simp only[Go.Conc.served,G]
   rw[Frame.finish_at,ho]
   rfl
  rw[e2]
  have hw:Wrote (fun _=>False) S W (W1.setChan c cap (buf.push v) false (s+1) r false) c (.chan cap (buf.push v) false (s+1) r false):=
   ⟨by have:=r1.size;simpa[World.setChan] using this,zeh hc1,fun b hb hn=>(zeg hn).trans (r1.own b hb),fun b hb=>hb.elim⟩
  exact k1 _ hw (a.put none undef) h1 (by simpa[Act.put] using h2) (by simpa[Act.put] using e))
theorem CE.close{x:Operand}{T:TypeId}{c cap s r:Nat}{buf:Array Value}(hk:b.kind≠.early)(ho:ops[i]?=some ⟨none,.call {callee:=.builtin .close,args:=#[x],argTypes:=#[T]},ty,pos,af,g⟩)(hg:wanted ops env g=some true)(hx:opv env x=some (.chan (some c)))
  (hn:(P.funcs[b.fn]?).any (·.norace)=false)(hS:S c)(hc:W.heap[c]?=some (.chan cap buf false s r false))
  (k1:∀ W2,Wrote (fun _=>False) S W W2 c (.chan cap buf true s r false)→CE (coM P Post .idle) S W2 b nt env (.inRegion ops rest::k) cs):CE (coM P Post .idle) S W b nt env (.inRegion ops (i::rest)::k) cs:=fun a h1 h2 e=>
 MX.intro rfl (.shut fun W1 r1=>by
  have hc1:=(r1.own c hS).trans hc
  have hst:=stepG_value (P:=P) (main:=true) (k:=k) (cs:=cs) (rest:=rest) (w:=W1) (v:=.tuple #[]) (w':=W1.setChan c cap buf true s r false) ho (zw (o:=⟨none,.call {callee:=.builtin .close,args:=#[x],argTypes:=#[T]},ty,pos,af,g⟩) e hg) hk (by
   simp only[execOp,resolve,List.map_toArray,List.map_cons,List.map_nil,zf e hx]
   simp[invoke,builtin,run_close_open _ _ hc1,World.setChan])
  have hl:listed P b.fn a ⟨none,.call {callee:=.builtin .close,args:=#[x],argTypes:=#[T]},ty,pos,af,g⟩ W1=#[⟨.obj c,false,true⟩,⟨.obj c,true,true⟩]:=by
   unfold listed
   rw[show(execOp a.eval ⟨none,.call {callee:=.builtin .close,args:=#[x],argTypes:=#[T]},ty,pos,af,g⟩).events P W1 #[]=#[⟨.obj c,false,true⟩,⟨.obj c,true,true⟩] by
    simp only[execOp,resolve,List.map_toArray,List.map_cons,List.map_nil,zf e hx]
    simp[invoke,builtin,go_sem,events_close_open _ _ hc1]]
   exact seen_eq hn (by intro e he f;simp only[List.mem_toArray,List.mem_cons,List.not_mem_nil,or_false] at he;rcases he with rfl|rfl<;>simp)
  rw[hl] at hst
  refine⟨_,c,cap,buf,s,r,hS,hc1,hst,?_⟩
  have hw:Wrote (fun _=>False) S W (W1.setChan c cap buf true s r false) c (.chan cap buf true s r false):=
   ⟨by have:=r1.size;simpa[World.setChan] using this,zeh hc1,fun b hb hn=>(zeg hn).trans (r1.own b hb),fun b hb=>hb.elim⟩
  exact k1 _ hw (a.put none (.tuple #[])) h1 (by simpa[Act.put] using h2) (by simpa[Act.put] using e))
theorem CE.opn{T:TypeId}{ti:TypeInfo}{z:Value}(hT:P.info? T=some ti)(hz:ti.zero=some z)(hk:b.kind≠.early)(ho:ops[i]?=some ⟨some d,.alloc T,ty,pos,af,g⟩)(hg:wanted ops env g=some true)(hd:Nat.blt d nt=true)
  (p:Nat→Ph)(S':Nat→Prop)(hW:∀ B,(p B).Wg=B)
  (k1:∀ W2 B,Grew (fun _=>False) S W W2 B (.cells z.cells T)→OpenOk (p B) (fun b=>S b∨b=B) S' W2∧CE (coM P Post (.op (p B) 0 0 false)) S' W2 b nt (put env d (.pointer (some ⟨B,0,none⟩))) (.inRegion ops rest::k) cs) :
  CE (coM P Post .idle) S W b nt env (.inRegion ops (i::rest)::k) cs:=fun a h1 h2 e=>
 MX.intro rfl (.opn fun W1 r1=>by
  have hs:(W1.alloc (.cells z.cells T)).heap.size=W1.heap.size+1:=by rw[z59,Array.size_push]
  have hold:∀ b,b<W1.heap.size→(W1.alloc (.cells z.cells T)).heap[b]?=W1.heap[b]? := fun b h=>by rw[z59,Array.getElem?_push,if_neg (Nat.ne_of_lt h)]
  have hgr:Grew (fun _=>False) S W (W1.alloc (.cells z.cells T)) W1.heap.size (.cells z.cells T):=⟨r1.size,hs,by rw[z59,Array.getElem?_push,if_pos rfl],fun b hb hl=>(hold b hl).trans (r1.own b hb),fun b hb=>hb.elim⟩
  obtain⟨k2,k3⟩:=k1 _ _ hgr
  have hst:=stepG_value (P:=P) (main:=true) (k:=k) (cs:=cs) (rest:=rest) (w:=W1) (v:=.pointer (some ⟨W1.heap.size,0,none⟩)) (w':=W1.alloc (.cells z.cells T)) ho (zw (o:=⟨some d,.alloc T,ty,pos,af,g⟩) e hg) hk (by simp[execOp,Instr.alloc,zeroValue,typeInfo,hT,hz,newVar,newRow])
  have hl:listed P b.fn a ⟨some d,.alloc T,ty,pos,af,g⟩ W1=#[]:=by unfold listed;rw[show(execOp a.eval ⟨some d,.alloc T,ty,pos,af,g⟩).events P W1 #[]=#[] by simp[execOp,Instr.alloc,zeroValue,typeInfo,hT,hz,newVar,newRow,newObj,go_sem,ev_new]];exact seen_none _ _
  rw[hl] at hst
  refine⟨_,_,_,S',p W1.heap.size,hst,gua_new (fun b hb=>hb.elim) (fun e he=>by simp at he),by rw[hW];exact Nat.le_refl _,k2,?_⟩
  exact k3 (a.put (some d) _) h1 (by simp[Act.put,h2]) (za8 e h2 hd))
theorem CE.go_{p:Ph}{s f:Nat}{x:Operand}{cap:Array Value}(hs:s<1000)(hk:b.kind≠.early)(ho:ops[i]?=some ⟨none,.go {callee:=.value x,args:=#[],argTypes:=#[]},ty,pos,af,g⟩)(hg:wanted ops env g=some true)(hx:opv env x=some (.func (.func f) #[] cap))
  (hc:∀ W1,Rly p.ro S W W1→WgLive p.ty p.Wg W1→WX P p ⟨p.n,none,fun _=>False,false,born P {target:=.fn (.func f) cap,args:=#[]},W1⟩)
  (k1:CE (coM P Post (.op p (s+1) 0 false)) S W b nt env (.inRegion ops rest::k) cs):CE (coM P Post (.op p s 1 false)) S W b nt env (.inRegion ops (i::rest)::k) cs:=fun a h1 h2 e=>
 MX.intro rfl (.spawn hs fun W1 r1=>by
  have hst:=stepG_spawn (P:=P) (main:=true) (k:=k) (cs:=cs) (rest:=rest) (w:=W1) (w':=W1) (d:={target:=.fn (.func f) cap,args:=#[]}) ho (zw (o:=⟨none,.go {callee:=.value x,args:=#[],argTypes:=#[]},ty,pos,af,g⟩) e hg) hk (by simp[execOp,resolve,zf e hx,Deferred.ofValue]) rfl
  have hl:listed P b.fn a ⟨none,.go {callee:=.value x,args:=#[],argTypes:=#[]},ty,pos,af,g⟩ W1=#[]:=by unfold listed;rw[show(execOp a.eval ⟨none,.go {callee:=.value x,args:=#[],argTypes:=#[]},ty,pos,af,g⟩).events P W1 #[]=#[] by simp only[execOp,resolve,zf e hx,Deferred.ofValue];simp[go_sem]];exact seen_none _ _
  rw[hl] at hst
  refine⟨_,_,hst,hc W1 r1.rly (r1.live p rfl),rfl,?_⟩
  exact MX.rely (k1 (a.put none undef) h1 (by simpa[Act.put] using h2) (by simpa[Act.put] using e)) ⟨r1.rly,r1.live⟩)
end
open Go.Conc Go.ConcN Go.RowKit Go.Fw Go.Conc.Lib Go.ConcR.Gen
open Go.ConcR (KK WgAt stA smA rd wr mk DC0)
theorem goes_wx'{P:Program}{p:Ph}{W0:World}(h0:WgLive p.ty p.Wg W0){q:Nat}{S:Nat→Prop}{g:Goroutine}{w:World}{n:Nat}(h:Goes P false (RL0 p) DC0 (BRl P p) n g W0):WX P p ⟨q,none,S,true,g,w⟩:=by
 have:=z8k (Stop':=fun g=>∀ W,WgLive p.ty p.Wg W→BRl P p g W) h0 (fun g h=>h) h
 refine Sil.wx (fun g W hs=>WX.intro ⟨(hs W0 h0).1,.inr (.inr (.inr ⟨rfl,rfl,fun W1 _ hl=>?_⟩))⟩) this
 obtain⟨g',a,m,b⟩:=(hs W1 hl).2
 exact⟨g',a,m,z8k h0 (fun _=>bk_k1 h0) b⟩
theorem done_wx{P:Program}{L:WgLink}(H:WgLib P L){p:Ph}(hty:p.ty=L.tWg){q qt:Nat}{S:Nat→Prop}{W W0:World}{c:Frame}{cs:List Frame}(hl:WgLive p.ty p.Wg W0)(hT:QuitsD P qt 0 (G (c.finish (.tuple #[])) cs)) :
  WX P p ⟨q,none,S,true,G (fDone L p.Wg) (c::cs),W⟩:=by
 have hA:∀ (W:World),CE (coW P p q none true) S W (base L.done) 4 [(0,Value.pointer (some ⟨p.Wg,0,none⟩))] [.code ((doneFn L).body.getD .skip)] (c::cs):=by
  intro W
  simp only[doneFn,Option.getD_some]
  refine CE.reg (CE.mv (by k_ne) rfl rfl rfl rfl (CE.enter H.f_add rfl (nm_add L) (by k_ne) rfl rfl (vs:=[Value.pointer (some ⟨p.Wg,0,none⟩),.int .i64 (-1)]) rfl fun a h1 h2 h3=>?_))
  refine goes_wx' (q:=q) (S:=S) hl (addNeg H hty (b₀:=base L.done) (a₀:=a) (i₀:=1) (rest₀:=[]) (k₀:=[]) (cs:=c::cs) (qt:=qt+3) ?_ W0 hl)
  refine QuitsD.ctl rfl (fun w=>stepG_region_end) ?_
  refine QuitsD.ctl rfl (fun w=>stepG_end) ?_
  refine QuitsD.ctl rfl (fun w=>stepG_leave rfl (by simpa[Act.put] using h1) H.f_done (results_none rfl _ P w) (events_results_none rfl _ _)) hT
 exact hA W _ rfl rfl (zar (vs:=[Value.pointer (some ⟨p.Wg,0,none⟩)]) (n:=3))
end Go.Mn
namespace Go.Mn
open Go.Conc Go.ConcN
def So(W0 w:World):Prop:=w.os=W0.os∧w.output=W0.output
theorem So.tr{W0 w w':World}(h:So W0 w)(k:w'.os=w.os∧w'.output=w.output):So W0 w':=⟨k.1.trans h.1,k.2.trans h.2⟩
section
variable {P:Program}{Post:Value→World→Prop}{W0:World}
theorem MT.so:∀ (r:Rk MSt) (x:MSt),So W0 x.W→MT P Post r x→MT P (fun v w=>Post v w∧So W0 w) r x
 |.leaf,_,_,h=>h
 |.node f,x,hs,⟨hg,h⟩=>by
  refine⟨hg,?_⟩
  have ih:=fun i=>MT.so (f i)
  cases h with
  |loc h=>exact .loc fun W1 hr=>let ⟨a,b,c,d,e,g,i,k⟩:=h W1 hr;⟨a,b,c,d,e,g,i,ih i _ ((hs.tr hr.rly.so).tr ⟨g.os,g.output⟩) k⟩
  |said p hp h=>exact .said p hp fun W1 hr=>let ⟨a,b,c,d,i,k⟩:=h W1 hr;⟨a,b,c,d,i,ih i _ (hs.tr hr.rly.so) k⟩
  |send h=>exact .send fun W1 hr=>let ⟨a,b,c,d,e,f,s,r,x1,x2,x3,x4,i,k⟩:=h W1 hr;⟨a,b,c,d,e,f,s,r,x1,x2,x3,x4,i,ih i _ ((hs.tr hr.so).tr ⟨rfl,rfl⟩) k⟩
  |shut h=>exact .shut fun W1 hr=>let ⟨a,b,c,d,e,f,x1,x2,x3,i,k⟩:=h W1 hr;⟨a,b,c,d,e,f,x1,x2,x3,i,ih i _ ((hs.tr hr.so).tr ⟨rfl,rfl⟩) k⟩
  |opn h=>exact .opn fun W1 hr=>let ⟨a,b,c,d,e,f,g,x2,x3,i,k⟩:=h W1 hr;⟨a,b,c,d,e,f,g,x2,x3,i,ih i _ ((hs.tr hr.so).tr ⟨g.os,g.output⟩) k⟩
  |dis h=>exact .dis fun W1 hr=>let ⟨a,b,k⟩:=h W1 hr;⟨a,b,k.imp (fun⟨i,k⟩=>⟨i,ih i _ (hs.tr hr.rly.so) k⟩) fun⟨y,i,k⟩=>⟨y,i,ih i _ (hs.tr hr.rly.so) k⟩⟩
  |add h=>exact .add fun W1 v hr hv hw=>let ⟨a,b,i,k⟩:=h W1 v hr hv hw;⟨a,b,i,ih i _ ((hs.tr hr.rly.so).tr (z6u _ _ _)) k⟩
  |ena h=>exact .ena fun W1 hr=>let ⟨a,b,i,k⟩:=h W1 hr;⟨a,b,i,ih i _ (hs.tr hr.rly.so) k⟩
  |spawn hq h=>exact .spawn hq fun W1 hr=>let ⟨a,b,c,d,e,i,k⟩:=h W1 hr;⟨a,b,c,d,e,i,ih i _ (hs.tr hr.rly.so) k⟩
  |ldw h=>exact .ldw fun W1 v hr hv hw=>let ⟨a,b,k1,k2⟩:=h W1 v hr hv hw;⟨a,b,fun e=>let ⟨i,k⟩:=k1 e;⟨i,ih i _ (hs.tr hr.rly.so) k⟩,fun e=>let ⟨i,k⟩:=k2 e;⟨i,ih i _ (hs.tr hr.rly.so) k⟩⟩
  |cas h=>exact .cas fun W1 v hr hv hw=>⟨fun e=>let ⟨a,b,i,k⟩:=(h W1 v hr hv hw).1 e;⟨a,b,i,ih i _ ((hs.tr hr.rly.so).tr (z6u _ _ _)) k⟩,fun e=>let ⟨a,b,i,k⟩:=(h W1 v hr hv hw).2 e;⟨a,b,i,ih i _ (hs.tr hr.rly.so) k⟩⟩
  |sem ho h=>exact .sem ho fun W1 hr=>⟨(h W1 hr).1,fun e=>let ⟨a,b,i,k⟩:=(h W1 hr).2 e;⟨a,b,i,ih i _ ((hs.tr hr.rly.so).tr (z6u _ _ _)) k⟩⟩
  |ld4 h=>exact .ld4 fun W1 hr hw=>let ⟨a,b,i,k⟩:=h W1 hr hw;⟨a,b,i,ih i _ (hs.tr hr.rly.so) k⟩
  |ena2 h=>exact .ena2 fun W1 hr=>let ⟨a,b,i,k⟩:=h W1 hr;⟨a,b,i,ih i _ (hs.tr hr.rly.so) k⟩
  |acq h=>exact .acq fun W1 fz hr hj ho hf=>let ⟨a,b,i,k⟩:=h W1 fz hr hj ho hf;⟨a,b,i,ih i _ (hs.tr hr.rly.so) k⟩
  |fin h=>exact .fin fun W1 hr=>let ⟨v,es,a,b,c⟩:=h W1 hr;⟨v,es,a,b,c,hs.tr hr.so⟩
theorem MT.post{Post':Value→World→Prop}(hp:∀ v w,Post v w→Post' v w):∀ (r:Rk MSt) (x:MSt),MT P Post r x→MT P Post' r x
 |.leaf,_,h=>h
 |.node f,x,⟨hg,h⟩=>by
  refine⟨hg,?_⟩
  have h':=z6l.mono (K':=fun y=>∃ i,MT P Post' (f i) y) (fun y ⟨i,k⟩=>⟨i,MT.post hp (f i) y k⟩) h
  cases h' with
  |fin q=>exact .fin fun W1 hr=>let ⟨v,es,a,b,c⟩:=q W1 hr;⟨v,es,a,b,hp _ _ c⟩
  |loc q=>exact .loc q
  |said p hp q=>exact .said p hp q
  |send q=>exact .send q
  |shut q=>exact .shut q
  |opn q=>exact .opn q
  |dis q=>exact .dis q
  |add q=>exact .add q
  |ena q=>exact .ena q
  |spawn hs q=>exact .spawn hs q
  |ldw q=>exact .ldw q
  |cas q=>exact .cas q
  |sem ho q=>exact .sem ho q
  |ld4 q=>exact .ld4 q
  |ena2 q=>exact .ena2 q
  |acq q=>exact .acq q
theorem MX.so{x:MSt}(h:MX P Post x):MX P (fun v w=>Post v w∧So x.W w) x:=let ⟨r,k⟩:=h;⟨r,MT.so r x ⟨rfl,rfl⟩ k⟩
end
end Go.Mn
