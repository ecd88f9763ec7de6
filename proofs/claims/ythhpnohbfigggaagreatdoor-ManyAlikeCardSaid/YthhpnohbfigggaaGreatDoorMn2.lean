/- Two runs side by side: operators, conversions, builtins. -/
import Derived.Test.YthhpnohbfigggaaGreatDoorMn1
set_option linter.all false
set_option maxHeartbeats 4000000
namespace Go.Mn
section
variable {F:Nat→Prop}{P:Program}{g:Bool}{ρ:Bij}{α β:Type}
theorem z8l(op:BinOp)(k:IntKind)(x y:Int):SR F P (vR F) g ρ (Op.intArith op k x y) (Op.intArith op k x y):=by
 unfold Op.intArith;split<;>first|exact za|exact zb (.int _ _)
theorem sr_intDiv(op:BinOp)(k:IntKind)(x y:Int):SR F P (vR F) g ρ (Op.intDiv op k x y) (Op.intDiv op k x y):=by
 unfold Op.intDiv
 refine zy (fun _=>z3j ⟨by simp,by simp⟩) fun _=>?_
 split<;>first|exact za|exact zb (.int _ _)
theorem z8a(op:BinOp)(k:IntKind)(x y:Int):SR F P (vR F) g ρ (Op.intBits op k x y) (Op.intBits op k x y):=by
 unfold Op.intBits;dsimp only;split<;>first|exact za|exact zb (.int _ _)
theorem sr_shift(op:BinOp)(k yk:IntKind)(x y:Int):SR F P (vR F) g ρ (Op.shift op k x yk y) (Op.shift op k x yk y):=by
 unfold Op.shift
 refine zy (fun _=>z3j ⟨by simp,by simp⟩) fun _=>?_
 dsimp only
 split<;>first|exact za|exact zb (.int _ _)
theorem z82(op:BinOp)(x y:Int):SR F P (vR F) g ρ (Op.intCmp op x y) (Op.intCmp op x y):=by
 unfold Op.intCmp;split<;>first|exact za|exact zb (.bool _)
theorem z1w(op:BinOp)(x y:ByteArray):SR F P (vR F) g ρ (Op.stringOp op x y) (Op.stringOp op x y):=by
 unfold Op.stringOp;dsimp only
 split<;>first|exact za|exact zb (.bool _)|exact zy (fun _=>zm (by simp)) fun _=>zb (.string _)
theorem sr_unary(op:UnOp){x x':Value}(h:VR F ρ x x'):SR F P (vR F) g ρ (Op.unary op x) (Op.unary op x'):=by
 cases op<;>cases h<;>first|exact za|exact zm (by simp)|exact zb (.bool _)|exact z8l .sub _ _ _|exact z8a .xor _ _ _
theorem zb1(t:Array TypeId)(u:TypeId){x x' y y':Value}(hx:VR F ρ x x')(hy:VR F ρ y y'):SR F P (fun σ v v'=>∃ a a',v=.pointer (some a)∧v'=.pointer (some a')∧DR σ a a') g ρ (Builtin.unsafeAdd_ t u #[x,y]) (Builtin.unsafeAdd_ t u #[x',y']):=by
 unfold Builtin.unsafeAdd_
 have out:∀ {a a':Addr},DR ρ a a'→∃ c c',Value.pointer (some a)=.pointer (some c)∧Value.pointer (some a')=.pointer (some c')∧DR ρ c c':=fun h=>⟨_,_,rfl,rfl,h⟩
 cases hx with
 |nilptr=>
  refine z25 (z8i hy) fun n=>?_
  dsimp only
  refine zy (fun _=>z5f (by simp)) fun _=>zy (fun _=>z5f (by simp)) fun _=>zm (by simp)
 |@ptr b c o s hr=>
  refine z25 (z8i hy) fun n=>?_
  dsimp only
  refine zy (fun _=>?_) fun _=>zy (fun _=>z5f (by simp)) fun _=>?_
  ·refine SR.bind (sr_viewAt hr) fun x x' ⟨e,e'⟩=>?_
   subst e e'
   exact zb (out (.mk o s hr))
  ·refine SR.bind (R:=eqR) (z6n hr) fun x x' e=>?_
   cases e
   split
   ·refine z1i ?_
    split
    ·exact zb (out (.mk _ s hr))
    ·exact zm (by simp)
   ·exact zm (by simp)
 |_=>exact za
theorem z8u(t:Array TypeId)(u:TypeId){x x' y y':Value}(hx:VR F ρ x x')(hy:VR F ρ y y'):SR F P (vR F) g ρ (Builtin.unsafeAdd_ t u #[x,y]) (Builtin.unsafeAdd_ t u #[x',y']):=
 SR.mono (fun _ _ _ ⟨_,_,e,e',h⟩=>by rw[e,e'];exact h.ptr) (zb1 t u hx hy)
theorem z4u(t:TypeId){x x' y y':Value}(hx:VR F ρ x x')(hy:VR F ρ y y'):SR F P (vR F) true ρ (movedNumber t x y) (movedNumber t x' y'):=by
 unfold movedNumber
 refine z1t (zt _) fun d=>?_
 refine zy (fun _=>z5f (by simp)) fun _=>?_
 cases hx with
 |@ptr b c o s hr=>
  refine SR.bind (z83 (.mk o s hr)) fun p p' ⟨hp,he⟩=>?_
  obtain⟨p1,l⟩:=p
  obtain⟨p1',l'⟩:=p'
  simp only at hp he
  subst he
  refine SR.bind (zb1 (F:=F) _ _ hp.ptr hy) fun v v' ⟨a,a',ev,ev',h⟩=>?_
  subst ev ev'
  exact sr_asNumber h _
 |hole h=>exact za
 |_=>exact z8u _ _ (by constructor<;>assumption) hy
theorem zdp(t:TypeId){x x' y y':Value}(hx:VR F ρ x x')(hy:VR F ρ y y'):SR F P (vR F) g ρ (movedPointer t x y) (movedPointer t x' y'):=by
 unfold movedPointer
 cases hx with
 |@ptr b c o s hr=>
  dsimp only
  refine SR.bind (zd8 hr) fun z z' hz=>?_
  have e:z.isSome=z'.isSome:=by rcases hz with⟨rfl,rfl⟩|⟨a,a',l,rfl,rfl,_⟩<;>rfl
  rw[e]
  exact zy (fun _=>z5f (by simp)) fun _=>z8u _ _ (.ptr o s hr) hy
 |hole h=>exact za
 |_=>exact z8u _ _ (by constructor<;>assumption) hy
theorem zbr(hb:Bi P ρ){a a' b b':Addr}(ha:DR ρ a a')(hb':DR ρ b b'):SR F P eqR g ρ (Op.twoPlaces a b) (Op.twoPlaces a' b'):=by
 unfold Op.twoPlaces
 refine z1i ?_
 dsimp only
 have hg:(a.block != b.block||decide (a.block≥P.globals.size))=(a'.block != b'.block||decide (a'.block≥P.globals.size)):=by
  have e:=dr_blk hb ha hb'
  by_cases h1:a.block<P.globals.size
  ·rw[bne,bne,e,hb.glob ha.blk (.inl h1)]
  ·by_cases h2:a'.block<P.globals.size
   ·rw[bne,bne,e,hb.glob ha.blk (.inr h2)]
   ·rw[bne,bne,e]
    simp[Nat.not_lt.1 h1,Nat.not_lt.1 h2]
 rw[hg]
 refine zy (fun _=>z5f (by simp)) fun _=>?_
 refine SR.bind (R:=eqR) (z7b ha) fun x x' e=>SR.bind (R:=eqR) (z7b hb') fun y y' e'=>?_
 cases e;cases e';exact zb rfl
theorem sr_addrSub(hb:Bi P ρ)(k:IntKind){a a' b b':Addr}(ha:DR ρ a a')(hb':DR ρ b b'):SR F P (vR F) g ρ (Op.addrSub k a b) (Op.addrSub k a' b'):=by
 unfold Op.addrSub
 exact z25 (zbr hb ha hb') fun x=>zb (.int _ _)
theorem z9q(hb:Bi P ρ)(op:BinOp){a a' b b':Addr}(ha:DR ρ a a')(hb':DR ρ b b'):SR F P (vR F) g ρ (Op.addrCmp op a b) (Op.addrCmp op a' b'):=by
 unfold Op.addrCmp
 refine z25 (zbr hb ha hb') fun x=>?_
 obtain⟨x,y⟩:=x
 dsimp only
 split<;>first|exact zb (.bool _)|exact zm (by simp)
theorem zbe(k:IntKind){a a':Addr}(ha:DR ρ a a')(n:Int):SR F P (vR F) g ρ (Op.addrMod k a n) (Op.addrMod k a' n):=by
 unfold Op.addrMod
 refine SR.bind (R:=eqR) (z6n ha.blk) fun x x' e=>?_
 cases e
 split
 ·refine z1t (z2m _) fun i=>?_
  dsimp only
  refine zy (fun _=>z5f (by simp)) fun _=>?_
  exact SR.bind (R:=eqR) (z7b ha) fun x x' e=>by cases e;exact zb (.int _ _)
 ·exact zm (by simp)
inductive VS(F:Nat→Prop)(ρ:Bij):Value→Value→Prop
 |bool (b:Bool):VS F ρ (.bool b) (.bool b)
 |int (k:IntKind) (n:Int):VS F ρ (.int k n) (.int k n)
 |string (s:ByteArray):VS F ρ (.string s) (.string s)
 |nilptr:VS F ρ (.pointer none) (.pointer none)
 |ptr {b c:Nat} (o:Nat) (s:Option Nat) (h:ρ b c):VS F ρ (.pointer (some ⟨b,o,s⟩)) (.pointer (some ⟨c,o,s⟩))
 |nilIface:VS F ρ .nilIface .nilIface
 |agg {xs xs':Array Value} (h:VR F ρ (.agg xs) (.agg xs')):VS F ρ (.agg xs) (.agg xs')
 |sl {a b:Option Addr} {n c:Nat} (h:VR F ρ (.slice a n c) (.slice b n c)):VS F ρ (.slice a n c) (.slice b n c)
 |mp {a b:Option Nat} (h:VR F ρ (.map a) (.map b)):VS F ρ (.map a) (.map b)
 |ch {a b:Option Nat} (h:VR F ρ (.chan a) (.chan b)):VS F ρ (.chan a) (.chan b)
 |fn {f g:Fn} {xs ys zs us:Array Value} (h:VR F ρ (.func f xs ys) (.func g zs us)):VS F ρ (.func f xs ys) (.func g zs us)
 |ifc {t u:TypeId} {a b:Value} (h:VR F ρ (.iface t a) (.iface u b)):VS F ρ (.iface t a) (.iface u b)
 |tup {a b:Array Value} (h:VR F ρ (.tuple a) (.tuple b)):VS F ρ (.tuple a) (.tuple b)
theorem VS.vr{v v':Value}(h:VS F ρ v v'):VR F ρ v v':=by
 cases h<;>first|assumption|(constructor<;>assumption)
theorem VR.split{v v':Value}(h:VR F ρ v v'):v=.nilFunc∨VS F ρ v v':=by
 cases h with
 |bool b=>exact .inr (.bool b)
 |int k n=>exact .inr (.int k n)
 |string s=>exact .inr (.string s)
 |nilptr=>exact .inr .nilptr
 |ptr o s h=>exact .inr (.ptr o s h)
 |nilIface=>exact .inr .nilIface
 |agg h1 h2=>exact .inr (.agg (.agg h1 h2))
 |nilFunc=>exact .inl rfl
 |hole h=>exact .inl rfl
 |nilsl l k=>exact .inr (.sl (.nilsl l k))
 |sl o s l k h=>exact .inr (.sl (.sl o s l k h))
 |slE a a'=>exact .inr (.sl (.slE a a'))
 |nilmap=>exact .inr (.mp .nilmap)
 |nilchan=>exact .inr (.ch .nilchan)
 |func hf h1 h2 h3 h4=>exact .inr (.fn (.func hf h1 h2 h3 h4))
 |iface t ht h=>exact .inr (.ifc (.iface t ht h))
 |tuple h1 h2=>exact .inr (.tup (.tuple h1 h2))
def isCmp:BinOp→Bool
 |.eql|.neq=>true
 |_=>false
def gOk(P:Program)(t:TypeId):Bool := !P.eqGuardType P.depth t||(match P.underlying t with|some (.interface _)=>true|_=>false)
theorem zdq{t:TypeId}{ms:Array (String×TypeId)}(h:P.underlying t=some (.interface ms))(d:Nat)(xs xs' ys ys':Array Value):SR F P eqR false ρ (Op.eqGuardIn (d+1) t (.agg xs) (.agg ys)) (Op.eqGuardIn (d+1) t (.agg xs') (.agg ys')):=by
 unfold Op.eqGuardIn
 refine SR.bind (z3c _) fun u u' ⟨e,hu⟩=>?_
 subst e
 rw[h] at hu
 cases hu
 exact zb rfl
theorem sr_eqGuard(op:BinOp)(t:TypeId)(u v:Operand){x x' y y':Value}(hq:isCmp op=true→gOk P t=true)(hx:VS F ρ x x')(hy:VS F ρ y y'):SR F P eqR false ρ (eqGuard op t u v x y) (eqGuard op t u v x' y'):=by
 unfold eqGuard
 refine zy (fun _=>zb rfl) fun hop=>?_
 have hq:gOk P t=true:=hq (by cases op<;>simp_all [isCmp])
 cases hx with
 |nilIface=>
  cases hy with
  |nilIface=>
   try dsimp only
   refine zy (fun _=>zb rfl) fun _=>?_
   refine z25 (zc5 _ _) fun b=>?_
   exact zy (fun _=>zm (by simp)) fun _=>zb rfl
  |_=>exact zb rfl
 |agg h1=>
  cases hy with
  |agg h3=>
   try dsimp only
   refine z1i (z1i ?_)
   try dsimp only
   refine zy (fun _=>zb rfl) fun hg=>?_
   have hu:∃ ms,P.underlying t=some (.interface ms):=by
    unfold gOk at hq
    simp only[Bool.or_eq_true,Bool.not_eq_true'] at hq
    rcases hq with h|h
    ·exact absurd (by simp[h]) hg
    ·split at h
     ·exact⟨_,‹_›⟩
     ·cases h
   obtain⟨ms,hu⟩:=hu
   refine z25 (zdq hu 9999 _ _ _ _) fun b=>?_
   exact zy (fun _=>zm (by simp)) fun _=>zb rfl
  |_=>exact zb rfl
 |_=>exact zb rfl
theorem sr_equal{Q:TypeId→Bool}(hc:zbz P Q)(hb:Bi P ρ)(t:TypeId){x x' y y':Value}(hq:Q t=true)(hx:VR F ρ x x')(hy:VR F ρ y y'):SR F P eqR false ρ (Op.equal t x y) (Op.equal t x' y'):=z9o hc hb _ _ hq hx hy
theorem sr_eql{Q:TypeId→Bool}(hc:zbz P Q)(hb:Bi P ρ)(t:TypeId){x x' y y':Value}(hq:Q t=true)(hx:VR F ρ x x')(hy:VR F ρ y y'):SR F P (vR F) g ρ (do pure (.bool (← Op.equal t x y))) (do pure (.bool (← Op.equal t x' y'))):=
 z25 (sr_equal hc hb t hq hx hy) fun b=>zb (.bool b)
theorem sr_neq{Q:TypeId→Bool}(hc:zbz P Q)(hb:Bi P ρ)(t:TypeId){x x' y y':Value}(hq:Q t=true)(hx:VR F ρ x x')(hy:VR F ρ y y'):SR F P (vR F) g ρ (do pure (.bool (!(← Op.equal t x y)))) (do pure (.bool (!(← Op.equal t x' y')))):=
 z25 (sr_equal hc hb t hq hx hy) fun b=>zb (.bool _)
theorem sr_beh1{k:Addr→Sem α}{k':Addr→Sem α}{R:Bij→α→α→Prop}{a a':Addr}(h:DR ρ a a')(hk:∀ b b',DR ρ b b'→SR F P R g ρ (k b) (k' b')):SR F P R g ρ (do k (← behindNumber a).1) (do k' (← behindNumber a').1):=
 SR.bind (z83 h) fun p p' ⟨hp,_⟩=>hk _ _ hp
theorem zcp{k:Addr→Addr→Sem α}{k':Addr→Addr→Sem α}{R:Bij→α→α→Prop}{a a' b b':Addr}(h:DR ρ a a')(h2:DR ρ b b')(hk:∀ c c' d d',DR ρ c c'→DR ρ d d'→SR F P R g ρ (k c d) (k' c' d')):SR F P R g ρ (do k (← behindNumber a).1 (← behindNumber b).1) (do k' (← behindNumber a').1 (← behindNumber b').1):=
 SR.bind (z83 h) fun p p' ⟨hp,_⟩=>SR.bind (z83 h2) fun q q' ⟨hq,_⟩=>hk _ _ _ _ hp hq
theorem sr_addPtr(t:TypeId){x x' y y':Value}(hx:VR F ρ x x')(hy:VR F ρ y y'):SR F P (vR F) true ρ (do if(← underlying t) matches .unsafePointer then movedPointer t x y else movedNumber t x y) (do if(← underlying t) matches .unsafePointer then movedPointer t x' y' else movedNumber t x' y'):=by
 refine z1t (zt _) fun d=>?_
 exact zy (fun _=>zdp t hx hy) fun _=>z4u t hx hy
theorem dead_binOpL{Q:TypeId→Bool}(hc:zbz P Q)(op:BinOp)(t:TypeId)(a b:Operand)(y:Value)(hq:isCmp op=true→Q t=true)(w:World):∃ h w',Dead h∧(eqGuard op t a b .nilFunc y >>= fun _=>binOp op t .nilFunc y).run P w=.halt h w':=by
 have cmp:∀ (f:Bool→Value),Q t=true→∃ h w',Dead h∧(do pure (f (← Op.equal t .nilFunc y)):Sem Value).run P w=.halt h w':=fun f hq=>by
  obtain⟨h,w',d,e⟩:=dead_equalL hc hq Op.maxDepth y w
  have e':(Op.equal t .nilFunc y).run P w=.halt h w':=e
  exact⟨h,w',d,by simp[Sem.run_bind,e',Result.andThen]⟩
 cases op with
 |eql=>obtain⟨h,w',d,e⟩:=cmp .bool (hq rfl);exact⟨h,w',d,by cases y<;>exact e⟩
 |neq=>obtain⟨h,w',d,e⟩:=cmp (fun b=>.bool !b) (hq rfl);exact⟨h,w',d,by cases y<;>exact e⟩
 |_=>cases y<;>(refine⟨_,w,?_,rfl⟩;trivial)
theorem dead_binOpR{Q:TypeId→Bool}(hc:zbz P Q)(op:BinOp)(t:TypeId)(a b:Operand)(x:Value)(hq:isCmp op=true→Q t=true)(w:World):∃ h w',Dead h∧(eqGuard op t a b x .nilFunc >>= fun _=>binOp op t x .nilFunc).run P w=.halt h w':=by
 have cmp:∀ (f:Bool→Value),Q t=true→∃ h w',Dead h∧(do pure (f (← Op.equal t x .nilFunc)):Sem Value).run P w=.halt h w':=fun f hq=>by
  obtain⟨h,w',d,e⟩:=dead_equalR hc hq Op.maxDepth x w
  have e':(Op.equal t x .nilFunc).run P w=.halt h w':=e
  exact⟨h,w',d,by simp[Sem.run_bind,e',Result.andThen]⟩
 cases op with
 |eql=>obtain⟨h,w',d,e⟩:=cmp .bool (hq rfl);exact⟨h,w',d,by cases x<;>exact e⟩
 |neq=>obtain⟨h,w',d,e⟩:=cmp (fun b=>.bool !b) (hq rfl);exact⟨h,w',d,by cases x<;>exact e⟩
 |_=>cases x<;>first|(refine⟨_,w,?_,rfl⟩;trivial)|(rename_i a;cases a<;>(refine⟨_,w,?_,rfl⟩;trivial))
theorem sr_binOp{Q:TypeId→Bool}(hc:zbz P Q)(hb:Bi P ρ)(op:BinOp)(t:TypeId){x x' y y':Value}(hq:isCmp op=true→Q t=true)(hx:VS F ρ x x')(hy:VS F ρ y y'):SR F P (vR F) true ρ (binOp op t x y) (binOp op t x' y'):=by
 have vx:=hx.vr
 have vy:=hy.vr
 cases op with
 |eql=>
  cases hx with
  |int k n=>
   cases hy with
   |int k' n'=>exact zy (fun _=>za) fun _=>z82 .eql _ _
   |_=>exact sr_eql hc hb t (hq rfl) vx vy
  |string a=>
   cases hy with
   |string b=>exact z1w .eql a b
   |_=>exact sr_eql hc hb t (hq rfl) vx vy
  |_=>cases hy<;>exact sr_eql hc hb t (hq rfl) vx vy
 |neq=>
  cases hx with
  |int k n=>
   cases hy with
   |int k' n'=>exact zy (fun _=>za) fun _=>z82 .neq _ _
   |_=>exact sr_neq hc hb t (hq rfl) vx vy
  |string a=>
   cases hy with
   |string b=>exact z1w .neq a b
   |_=>exact sr_neq hc hb t (hq rfl) vx vy
  |_=>cases hy<;>exact sr_neq hc hb t (hq rfl) vx vy
 |add=>
  cases hx with
  |int k n=>
   cases hy with
   |int k' n'=>exact zy (fun _=>za) fun _=>z8l .add _ _ _
   |ptr o s hr=>exact z4u t (.ptr o s hr) (.int k n)
   |nilptr=>exact z4u t .nilptr (.int k n)
   |_=>first|exact za|exact zm (by simp)
  |string a=>
   cases hy with
   |string b=>exact z1w .add a b
   |_=>first|exact za|exact zm (by simp)
  |ptr o s hr=>
   cases hy with
   |int k n=>exact sr_addPtr t (.ptr o s hr) (.int k n)
   |_=>first|exact za|exact zm (by simp)
  |nilptr=>
   cases hy with
   |int k n=>exact sr_addPtr t .nilptr (.int k n)
   |_=>first|exact za|exact zm (by simp)
  |_=>cases hy<;>first|exact za|exact zm (by simp)
 |sub=>
  cases hx with
  |int k n=>
   cases hy with
   |int k' n'=>exact zy (fun _=>za) fun _=>z8l .sub _ _ _
   |_=>first|exact za|exact zm (by simp)
  |string a=>
   cases hy with
   |string b=>exact z1w .sub a b
   |_=>first|exact za|exact zm (by simp)
  |ptr o s hr=>
   cases hy with
   |int k n=>exact z4u t (.ptr o s hr) (.int k (-n))
   |ptr o1 s1 hr1=>exact zcp (.mk o s hr) (.mk o1 s1 hr1) fun _ _ _ _ h1 h2=>sr_addrSub hb _ h1 h2
   |_=>first|exact za|exact zm (by simp)
  |nilptr=>
   cases hy with
   |int k n=>exact z4u t .nilptr (.int k (-n))
   |_=>first|exact za|exact zm (by simp)
  |_=>cases hy<;>first|exact za|exact zm (by simp)
 |mul=>
  cases hx with
  |int k n=>
   cases hy with
   |int k' n'=>exact zy (fun _=>za) fun _=>z8l .mul _ _ _
   |_=>first|exact za|exact zm (by simp)
  |string a=>
   cases hy with
   |string b=>exact z1w .mul a b
   |_=>first|exact za|exact zm (by simp)
  |ptr o s hr=>
   cases hy with
   |_=>first|exact za|exact zm (by simp)
  |nilptr=>
   cases hy with
   |_=>first|exact za|exact zm (by simp)
  |_=>cases hy<;>first|exact za|exact zm (by simp)
 |quo=>
  cases hx with
  |int k n=>
   cases hy with
   |int k' n'=>exact zy (fun _=>za) fun _=>sr_intDiv .quo _ _ _
   |_=>first|exact za|exact zm (by simp)
  |string a=>
   cases hy with
   |string b=>exact z1w .quo a b
   |_=>first|exact za|exact zm (by simp)
  |ptr o s hr=>
   cases hy with
   |_=>first|exact za|exact zm (by simp)
  |nilptr=>
   cases hy with
   |_=>first|exact za|exact zm (by simp)
  |_=>cases hy<;>first|exact za|exact zm (by simp)
 |rem=>
  cases hx with
  |int k n=>
   cases hy with
   |int k' n'=>exact zy (fun _=>za) fun _=>sr_intDiv .rem _ _ _
   |_=>first|exact za|exact zm (by simp)
  |string a=>
   cases hy with
   |string b=>exact z1w .rem a b
   |_=>first|exact za|exact zm (by simp)
  |ptr o s hr=>
   cases hy with
   |int k n=>exact sr_beh1 (.mk o s hr) fun _ _ h1=>zbe _ h1 _
   |_=>first|exact za|exact zm (by simp)
  |nilptr=>
   cases hy with
   |_=>first|exact za|exact zm (by simp)
  |_=>cases hy<;>first|exact za|exact zm (by simp)
 |and=>
  cases hx with
  |int k n=>
   cases hy with
   |int k' n'=>exact zy (fun _=>za) fun _=>z8a .and _ _ _
   |ptr o s hr=>exact sr_beh1 (.mk o s hr) fun _ _ h1=>zbe _ h1 _
   |_=>first|exact za|exact zm (by simp)
  |string a=>
   cases hy with
   |string b=>exact z1w .and a b
   |_=>first|exact za|exact zm (by simp)
  |ptr o s hr=>
   cases hy with
   |int k n=>exact sr_beh1 (.mk o s hr) fun _ _ h1=>zbe _ h1 _
   |_=>first|exact za|exact zm (by simp)
  |nilptr=>
   cases hy with
   |_=>first|exact za|exact zm (by simp)
  |_=>cases hy<;>first|exact za|exact zm (by simp)
 |or=>
  cases hx with
  |int k n=>
   cases hy with
   |int k' n'=>exact zy (fun _=>za) fun _=>z8a .or _ _ _
   |_=>first|exact za|exact zm (by simp)
  |string a=>
   cases hy with
   |string b=>exact z1w .or a b
   |_=>first|exact za|exact zm (by simp)
  |ptr o s hr=>
   cases hy with
   |_=>first|exact za|exact zm (by simp)
  |nilptr=>
   cases hy with
   |_=>first|exact za|exact zm (by simp)
  |_=>cases hy<;>first|exact za|exact zm (by simp)
 |xor=>
  cases hx with
  |int k n=>
   cases hy with
   |int k' n'=>exact zy (fun _=>za) fun _=>z8a .xor _ _ _
   |_=>first|exact za|exact zm (by simp)
  |string a=>
   cases hy with
   |string b=>exact z1w .xor a b
   |_=>first|exact za|exact zm (by simp)
  |ptr o s hr=>
   cases hy with
   |_=>first|exact za|exact zm (by simp)
  |nilptr=>
   cases hy with
   |_=>first|exact za|exact zm (by simp)
  |_=>cases hy<;>first|exact za|exact zm (by simp)
 |andNot=>
  cases hx with
  |int k n=>
   cases hy with
   |int k' n'=>exact zy (fun _=>za) fun _=>z8a .andNot _ _ _
   |_=>first|exact za|exact zm (by simp)
  |string a=>
   cases hy with
   |string b=>exact z1w .andNot a b
   |_=>first|exact za|exact zm (by simp)
  |ptr o s hr=>
   cases hy with
   |_=>first|exact za|exact zm (by simp)
  |nilptr=>
   cases hy with
   |_=>first|exact za|exact zm (by simp)
  |_=>cases hy<;>first|exact za|exact zm (by simp)
 |shl=>
  cases hx with
  |int k n=>
   cases hy with
   |int k' n'=>exact sr_shift .shl k k' n n'
   |_=>first|exact za|exact zm (by simp)
  |string a=>
   cases hy with
   |string b=>exact z1w .shl a b
   |_=>first|exact za|exact zm (by simp)
  |ptr o s hr=>
   cases hy with
   |_=>first|exact za|exact zm (by simp)
  |nilptr=>
   cases hy with
   |_=>first|exact za|exact zm (by simp)
  |_=>cases hy<;>first|exact za|exact zm (by simp)
 |shr=>
  cases hx with
  |int k n=>
   cases hy with
   |int k' n'=>exact sr_shift .shr k k' n n'
   |_=>first|exact za|exact zm (by simp)
  |string a=>
   cases hy with
   |string b=>exact z1w .shr a b
   |_=>first|exact za|exact zm (by simp)
  |ptr o s hr=>
   cases hy with
   |_=>first|exact za|exact zm (by simp)
  |nilptr=>
   cases hy with
   |_=>first|exact za|exact zm (by simp)
  |_=>cases hy<;>first|exact za|exact zm (by simp)
 |lss=>
  cases hx with
  |int k n=>
   cases hy with
   |int k' n'=>exact zy (fun _=>za) fun _=>z82 .lss _ _
   |_=>first|exact za|exact zm (by simp)
  |string a=>
   cases hy with
   |string b=>exact z1w .lss a b
   |_=>first|exact za|exact zm (by simp)
  |ptr o s hr=>
   cases hy with
   |ptr o1 s1 hr1=>exact zcp (.mk o s hr) (.mk o1 s1 hr1) fun _ _ _ _ h1 h2=>z9q hb .lss h1 h2
   |_=>first|exact za|exact zm (by simp)
  |nilptr=>
   cases hy with
   |_=>first|exact za|exact zm (by simp)
  |_=>cases hy<;>first|exact za|exact zm (by simp)
 |leq=>
  cases hx with
  |int k n=>
   cases hy with
   |int k' n'=>exact zy (fun _=>za) fun _=>z82 .leq _ _
   |_=>first|exact za|exact zm (by simp)
  |string a=>
   cases hy with
   |string b=>exact z1w .leq a b
   |_=>first|exact za|exact zm (by simp)
  |ptr o s hr=>
   cases hy with
   |ptr o1 s1 hr1=>exact zcp (.mk o s hr) (.mk o1 s1 hr1) fun _ _ _ _ h1 h2=>z9q hb .leq h1 h2
   |_=>first|exact za|exact zm (by simp)
  |nilptr=>
   cases hy with
   |_=>first|exact za|exact zm (by simp)
  |_=>cases hy<;>first|exact za|exact zm (by simp)
 |gtr=>
  cases hx with
  |int k n=>
   cases hy with
   |int k' n'=>exact zy (fun _=>za) fun _=>z82 .gtr _ _
   |_=>first|exact za|exact zm (by simp)
  |string a=>
   cases hy with
   |string b=>exact z1w .gtr a b
   |_=>first|exact za|exact zm (by simp)
  |ptr o s hr=>
   cases hy with
   |ptr o1 s1 hr1=>exact zcp (.mk o s hr) (.mk o1 s1 hr1) fun _ _ _ _ h1 h2=>z9q hb .gtr h1 h2
   |_=>first|exact za|exact zm (by simp)
  |nilptr=>
   cases hy with
   |_=>first|exact za|exact zm (by simp)
  |_=>cases hy<;>first|exact za|exact zm (by simp)
 |geq=>
  cases hx with
  |int k n=>
   cases hy with
   |int k' n'=>exact zy (fun _=>za) fun _=>z82 .geq _ _
   |_=>first|exact za|exact zm (by simp)
  |string a=>
   cases hy with
   |string b=>exact z1w .geq a b
   |_=>first|exact za|exact zm (by simp)
  |ptr o s hr=>
   cases hy with
   |ptr o1 s1 hr1=>exact zcp (.mk o s hr) (.mk o1 s1 hr1) fun _ _ _ _ h1 h2=>z9q hb .geq h1 h2
   |_=>first|exact za|exact zm (by simp)
  |nilptr=>
   cases hy with
   |_=>first|exact za|exact zm (by simp)
  |_=>cases hy<;>first|exact za|exact zm (by simp)
end
section
variable {F:Nat→Prop}{P:Program}{g:Bool}{ρ:Bij}{α β:Type}
def isInt(P:Program)(t:TypeId):Bool:=match P.underlying t with|some (.int _)=>true|_=>false
def isU8(P:Program)(t:TypeId):Bool:=match P.underlying t with|some (.int .u8)=>true|_=>false
def isStr(P:Program)(t:TypeId):Bool:=match P.underlying t with|some .string=>true|_=>false
def zf9(P:Program)(t:TypeId):Bool:=match P.underlying t with|some (.slice e)=>isU8 P e|_=>false
def convOk(P:Program)(s d:TypeId):Bool:=(isInt P s&&isInt P d)||(isStr P s&&zf9 P d)||(zf9 P s&&isStr P d)
theorem zc3{a a':Addr}(h:DR ρ a a'):SR F P eqR true ρ (markStringish a) (markStringish a'):=by
 unfold markStringish
 refine SR.shapeK h.blk fun σ x hl hx=>?_
 cases x with
 |none=>exact zb rfl
 |some p=>
  obtain⟨e,n⟩:=p
  exact sr_freeze ((h.at_ _ _).mono hl) _ ⟨n,hx e n rfl,Nat.le_refl _⟩
theorem zc2(e:TypeId)(s:ByteArray):SR F P (vR F) true ρ (Conv.stringToBytes e s) (Conv.stringToBytes e s):=by
 unfold Conv.stringToBytes
 refine z1t (z66 _) fun cap=>?_
 dsimp only
 refine SR.bindN (z7a e (AR.append (AR.map fun x _=>.int _ _) (AR.replicate (.int _ _) _))) fun σ a a' _ ha=>?_
 exact SR.bindN (zc3 ha) fun τ _ _ hl _=>zb ((ha.mono hl).sl _ _)
theorem sr_forList{γ:Type}{f f':Value→γ→Sem (ForInStep γ)}(h:∀ v v' s,VR F ρ v v'→SR F P eqR false ρ (f v s) (f' v' s)){l l':List Value}(hl:LR F ρ l l'):∀ s,SR F P eqR false ρ (forIn l s f) (forIn l' s f'):=by
 induction hl with
 |nil=>intro s;simp only[List.forIn_nil];exact zb rfl
 |cons hv _ ih=>
  intro s
  simp only[List.forIn_cons]
  refine z25 (h _ _ s hv) fun r=>?_
  cases r with
  |done s=>exact zb rfl
  |yield s=>exact ih s
theorem zc6{x x':Value}(h:VR F ρ x x'):SR F P (vR F) g ρ (Conv.bytesToString x) (Conv.bytesToString x'):=by
 unfold Conv.bytesToString
 cases h with
 |nilsl l k=>exact zb (.string _)
 |slE a a'=>exact zb (.string _)
 |sl o s l k hr=>
  refine SR.bind (z9d (.mk o s hr) l) fun c c' hc=>?_
  dsimp only
  rw[← Array.forIn_toList,← Array.forIn_toList]
  refine z25 (sr_forList (fun v v' s hv=>?_) hc.list _) fun r=>zb (.string _)
  cases hv with
  |int k n=>cases k<;>first|exact z47|exact zb rfl
  |_=>exact z47
 |_=>exact za
theorem sr_convert{s d:TypeId}(hc:convOk P s d=true){x x':Value}(h:VR F ρ x x'):SR F P (vR F) true ρ (convert s d x) (convert s d x'):=by
 unfold convert
 refine SR.bind (z3c s) fun u u' hu=>SR.bind (z3c d) fun w w' hw=>?_
 obtain⟨rfl,hu⟩:=hu
 obtain⟨rfl,hw⟩:=hw
 simp only[convOk,Bool.or_eq_true,Bool.and_eq_true] at hc
 rcases hc with(⟨h1,h2⟩|⟨h1,h2⟩)|⟨h1,h2⟩
 ·simp only[isInt,hu,hw] at h1 h2
  cases u<;>simp at h1
  cases w<;>simp at h2
  cases h<;>first
   |exact za
   |exact zm (by simp)
   |exact zb (.int _ _)
 ·simp only[isStr,zf9,hu,hw] at h1 h2
  cases u<;>simp at h1
  cases w<;>simp at h2
  rename_i e
  cases h with
  |string b=>
   refine SR.bind (z3c e) fun v v' hv=>?_
   obtain⟨rfl,hv⟩:=hv
   simp only[isU8,hv] at h2
   cases v<;>try simp at h2
   rename_i k
   cases k<;>try simp at h2
   exact zc2 _ _
  |_=>first|exact za|exact zm (by simp)
 ·simp only[isStr,zf9,hu,hw] at h1 h2
  cases u<;>simp at h1
  cases w<;>simp at h2
  rename_i e
  have go:∀ {x x':Value},VR F ρ x x'→SR F P (vR F) true ρ (do match ← underlying e with
    |.int .u8=>Conv.bytesToString x
    |.int .i32=>Conv.runesToString x
    |_=>stuck "Convert: a slice of what to string?") (do match ← underlying e with
    |.int .u8=>Conv.bytesToString x'
    |.int .i32=>Conv.runesToString x'
    |_=>stuck "Convert: a slice of what to string?"):=fun {x x'} h=>by
   refine SR.bind (z3c e) fun v v' hv=>?_
   obtain⟨rfl,hv⟩:=hv
   simp only[isU8,hv] at h1
   cases v<;>try simp at h1
   rename_i k
   cases k<;>try simp at h1
   exact zc6 h
  have dead:∀ B:Sem Value,SR F P (vR F) true ρ (do match ← underlying e with
    |.int .u8=>Conv.bytesToString .nilFunc
    |.int .i32=>Conv.runesToString .nilFunc
    |_=>stuck "Convert: a slice of what to string?") B:=fun B=>.dead fun w=>by
   have he:∃ k,P.underlying e=some (.int k)∧k=.u8:=by
    unfold isU8 at h1
    split at h1
    ·exact⟨_,‹_›,rfl⟩
    ·cases h1
   obtain⟨k,he,rfl⟩:=he
   refine⟨.stuck "bytesToString: slice expected",w,trivial,?_⟩
   simp[underlying,he,Conv.bytesToString,Sem.run_bind]
  cases h with
  |hole h=>exact dead _
  |nilFunc=>exact dead _
  |_=>first
   |exact zb (.string _)
   |exact go (by constructor<;>assumption)
   |exact za
theorem zas{x x':Value}(h:VR F ρ x x'):SR F P (fun _ n n'=>n=n'∧((∃ a,x=.slice (some a) 0 0)→n=0)) g ρ (Builtin.lenOf x) (Builtin.lenOf x'):=by
 cases h<;>first|exact za|exact zb ⟨rfl,by rintro⟨a,e⟩;simp_all⟩
theorem z5m(s n:Nat){x x':Value}(h:VR F ρ x x')(hn:(∃ a,x=.slice (some a) 0 0)→n=0):SR F P (aR F) g ρ (Builtin.firstCells s n x) (Builtin.firstCells s n x'):=by
 cases h with
 |nilsl l k=>exact zb AR.nil
 |sl o q l k hr=>exact z9d (.mk o q hr) _
 |slE a a'=>
  obtain rfl:=hn ⟨a,rfl⟩
  simp only[Builtin.firstCells,Nat.zero_mul]
  exact zb AR.nil
 |string b=>exact zb (AR.map fun x _=>.int _ _)
 |_=>exact za
theorem za5(s:Nat){x x':Value}(h:VR F ρ x x'):SR F P (fun _ c c'=>c=#[]∧c'=#[]) g ρ (Builtin.firstCells s 0 x) (Builtin.firstCells s 0 x'):=by
 cases h with
 |nilsl l k=>exact zb ⟨rfl,rfl⟩
 |sl o q l k hr=>simp only[Builtin.firstCells,Nat.zero_mul];exact zb ⟨rfl,rfl⟩
 |slE a a'=>simp only[Builtin.firstCells,Nat.zero_mul];exact zb ⟨rfl,rfl⟩
 |string b=>exact zb ⟨by simp,by simp⟩
 |_=>exact za
theorem z7q{z z':Array Value}(h:AR F ρ z z')(n:Nat):AR F ρ (Builtin.zeroCells z n) (Builtin.zeroCells z' n):=by
 unfold Builtin.zeroCells
 rw[h.size]
 refine AR.map fun i _=>?_
 simp only[Array.getElem!_eq_getD]
 rw[← h.size]
 rw[h.size]
 exact h.getD dflt_vr _
structure LQ(F:Nat→Prop)(P:Program)(ρ:Bij)(A:Sem α):Prop where
 go:∀ {β:Type} {R:Bij→β→β→Prop} {g:Bool} (f:α→Sem β) (B:Sem β),(∀ a,SR F P R g ρ (f a) B)→SR F P R g ρ (A >>= f) B
theorem LQ.pure(a:α):LQ F P ρ (Pure.pure a:Sem α):=⟨fun f B h=>h a⟩
theorem LQ.shape(r:Nat):LQ F P ρ (Go.shape r):=⟨fun f B h=>SR.shapeL fun x=>h x⟩
theorem LQ.frozen(a:Addr):LQ F P ρ (Go.frozen a):=⟨fun f B h=>SR.frozenL fun x=>h x⟩
theorem LQ.bind{A:Sem α}{k:α→Sem β}(h:LQ F P ρ A)(hk:∀ a,LQ F P ρ (k a)):LQ F P ρ (A >>= k):=⟨fun f B hf=>by
 rw[bind_assoc]
 exact h.go _ B fun a=>(hk a).go f B hf⟩
theorem LQ.ite{c:Prop}[Decidable c]{A B:Sem α}(h:LQ F P ρ A)(k:LQ F P ρ B):LQ F P ρ (if c then A else B):=by
 split
 ·exact h
 ·exact k
theorem LQ.holds(a:Addr)(n:Nat):LQ F P ρ (Builtin.holdsCells a n):=by
 unfold Builtin.holdsCells
 refine LQ.bind (LQ.shape _) fun x=>?_
 split<;>exact LQ.pure _
theorem LQ.mayShare(s l n:Nat)(b:Option Addr)(x:Value):LQ F P ρ (Builtin.mayShare s l n b x):=by
 unfold Builtin.mayShare
 have rest:∀ there:Bool,LQ F P ρ (if(!there)=true then Pure.pure true
   else
    match x with
    |Value.slice (some c) len cap=>do
     let h ← Builtin.holdsCells c (n*s)
     Pure.pure (!h||Option.any (fun x=>x.block==c.block) b)
    |z=>Pure.pure false):=fun there=>by
  refine LQ.ite (LQ.pure _) ?_
  split
  ·exact LQ.bind (LQ.holds _ _) fun _=>LQ.pure _
  ·exact LQ.pure _
 cases b with
 |none=>exact LQ.bind (LQ.pure _) rest
 |some a=>exact LQ.bind (LQ.holds _ _) fun h1=>LQ.bind (LQ.frozen _) fun h2=>LQ.bind (LQ.pure _) rest
theorem LQ.doom{γ:Type}{R:Bij→γ→γ→Prop}{A:Sem α}{k:α→Sem β}{f:β→Sem γ}{B:Sem γ}(h:LQ F P ρ A)(hk:∀ a,SR F P R g ρ (k a >>= f) B):SR F P R g ρ ((A >>= k) >>= f) B:=by
 rw[bind_assoc]
 exact h.go _ B hk
theorem VR.optSl{x x':Value}(h:VR F ρ x x'):∀ (b:Option Addr) (l k:Nat),x=.slice b l k→∃ b',x'=.slice b' l k∧((b=none∧b'=none)∨(∃ a a',b=some a∧b'=some a'∧DR ρ a a')∨∃ a a',b=some a∧b'=some a'∧l=0∧k=0):=by
 intro b l k e
 subst e
 cases h with
 |nilsl _ _=>exact⟨none,rfl,.inl ⟨rfl,rfl⟩⟩
 |sl o s _ _ hr=>exact⟨_,rfl,.inr (.inl ⟨_,_,rfl,rfl,.mk o s hr⟩)⟩
 |slE a a'=>exact⟨_,rfl,.inr (.inr ⟨_,_,rfl,rfl,rfl,rfl⟩)⟩
theorem sr_append(hz:Zs F P)(ts:Array TypeId)(t:TypeId){xs xs':Array Value}(h:AR F ρ xs xs'):SR F P (vR F) true ρ (Builtin.append_ ts t xs) (Builtin.append_ ts t xs'):=by
 unfold Builtin.append_
 cases ts[0]? with
 |none=>exact za
 |some sT=>
  rcases h.get? 0 with⟨e,e'⟩|⟨s,s',e,e',hs⟩
  ·simp only[e,e'];exact za
  rcases h.get? 1 with⟨f,f'⟩|⟨x,x',f,f',hx⟩
  ·simp only[e,e',f,f'];exact za
  simp only[e,e',f,f']
  refine z1t (zt _) fun d=>?_
  split
  ·rename_i elem
   by_cases hsl:∃ b l k,s=.slice b l k
   ·obtain⟨b,l,k,rfl⟩:=hsl
    obtain⟨b',rfl,hbb⟩:=hs.optSl b l k rfl
    dsimp only
    refine z1t (z2c _) fun size=>?_
    have zr:SR F P (fun _ (z z':Bool)=>z=z') false ρ (match ts[1]? with
       |some xType=>do
        let u ← underlying xType
        pure (match u with|TypeDesc.int k=>true|x=>false)
       |none=>pure false) (match ts[1]? with
       |some xType=>do
        let u ← underlying xType
        pure (match u with|TypeDesc.int k=>true|x=>false)
       |none=>pure false):=by
     split
     ·exact z1t (zt _) fun u=>zb rfl
     ·exact zb rfl
    have go:∀ (f f':Bool→Sem Value),(∀ z,SR F P (vR F) true ρ (f z) (f' z))→SR F P (vR F) true ρ (match ts[1]? with
       |some xType=>do
        let u ← underlying xType
        let z ← pure (match u with|TypeDesc.int k=>true|x=>false)
        f z
       |none=>do
        let z ← pure false
        f z) (match ts[1]? with
       |some xType=>do
        let u ← underlying xType
        let z ← pure (match u with|TypeDesc.int k=>true|x=>false)
        f' z
       |none=>do
        let z ← pure false
        f' z):=fun f f' h=>by
     split
     ·exact z1t (zt _) fun u=>h _
     ·exact h _
    refine go _ _ fun z=>?_
    have hs1:∀ {n m:Nat},b=none→VR F ρ (.slice none n m) (.slice none n m):=fun _=>.nilsl _ _
    cases z
    ·refine SR.bind (zas hx) fun n n' ⟨en,hn⟩=>?_
     subst en
     have app:∀ {g:Bool},SR F P (aR F) g ρ (Builtin.firstCells size n x) (Builtin.firstCells size n x'):=fun {g} => by
      exact z5m _ _ hx hn
     refine zy (fun hcd=>?_) fun _=>z1t (z2m _) fun i=>?_
     ·rcases hbb with⟨rfl,rfl⟩|⟨p,p',rfl,rfl,hp⟩|⟨p,p',rfl,rfl,rfl,rfl⟩
      ·exact SR.bind app fun c c' hc=>zb (.nilsl _ _)
      ·exact SR.bind app fun c c' hc=>z25 (z5k (hp.add _) hc.list 0) fun _=>zb (hp.sl _ _)
      ·obtain rfl:n=0:=by omega
       refine SR.bind (za5 size hx) fun c c' ⟨e1,e2⟩=>?_
       subst e1 e2
       exact SR.bind (R:=eqR) (zb rfl) fun _ _ _=>zb (R:=vR F) (VR.slE (F:=F) (ρ:=ρ) _ _)
     ·refine zy (fun _=>z4e ⟨by simp,by simp⟩) fun _=>z1t (z2m _) fun i2=>?_
      refine zy (fun _=>?_) fun _=>?_
      ·refine LQ.doom (LQ.mayShare _ _ _ _ _) fun q=>?_
       split
       ·exact SR.markL (.halt trivial)
       ·exact .halt trivial
      ·refine z1t (z66 _) fun nc=>z1t (z2m _) fun i3=>z1t (zbd _) fun _=>SR.bind (z5m _ _ hs (fun⟨a,e⟩=>by cases e;rfl)) fun o o' ho=>SR.bind app fun c c' hc=>SR.bind (z3q hz _) fun z z' hzz=>?_
       exact zco (z7a _ ((ho.append hc).append (z7q hzz.cells _))) _ _
    ·refine z25 (z8i hx) fun l0=>?_
     refine zy (fun _=>z4e ⟨by simp,by simp⟩) fun _=>z1t (z2m _) fun i0=>zy (fun _=>z1t (z66 _) fun _=>z4e ⟨by simp,by simp⟩) fun _=>?_
     generalize (IntKind.i64.wrap l0).toNat=n
     have app:∀ {g:Bool},SR F P (aR F) g ρ (if n*size=0 then pure #[] else do pure (Builtin.zeroCells (← zeroValue elem).cells n)) (if n*size=0 then pure #[] else do pure (Builtin.zeroCells (← zeroValue elem).cells n)):=fun {g} => by
      exact zy (fun _=>zb AR.nil) fun _=>SR.bind (z3q hz _) fun z z' hzz=>zb (z7q hzz.cells _)
     refine zy (fun hcd=>?_) fun _=>z1t (z2m _) fun i=>?_
     ·rcases hbb with⟨rfl,rfl⟩|⟨p,p',rfl,rfl,hp⟩|⟨p,p',rfl,rfl,rfl,rfl⟩
      ·exact SR.bind app fun c c' hc=>zb (.nilsl _ _)
      ·exact SR.bind app fun c c' hc=>z25 (z5k (hp.add _) hc.list 0) fun _=>zb (hp.sl _ _)
      ·obtain rfl:n=0:=by omega
       rw[if_pos (Nat.zero_mul _)]
       refine SR.bind (R:=fun _ c c'=>c=#[]∧c'=#[]) (zb ⟨rfl,rfl⟩) fun c c' ⟨e1,e2⟩=>?_
       subst e1 e2
       exact SR.bind (R:=eqR) (zb rfl) fun _ _ _=>zb (R:=vR F) (VR.slE (F:=F) (ρ:=ρ) _ _)
     ·refine zy (fun _=>z4e ⟨by simp,by simp⟩) fun _=>z1t (z2m _) fun i2=>?_
      refine zy (fun _=>?_) fun _=>?_
      ·exact SR.bind (R:=fun _ _ _=>False) (zy (fun _=>z3j ⟨by simp,by simp⟩) (fun h=>absurd rfl h)) fun _ _ x=>x.elim
      ·refine z1t (z66 _) fun nc=>z1t (z2m _) fun i3=>z1t (zbd _) fun _=>SR.bind (z5m _ _ hs (fun⟨a,e⟩=>by cases e;rfl)) fun o o' ho=>SR.bind app fun c c' hc=>SR.bind (z3q hz _) fun z z' hzz=>?_
       exact zco (z7a _ ((ho.append hc).append (z7q hzz.cells _))) _ _
   ·cases hs<;>first|exact za|exact absurd ⟨_,_,_,rfl⟩ hsl
  ·exact za
theorem sr_copy(ts:Array TypeId)(t:TypeId){xs xs':Array Value}(h:AR F ρ xs xs'):SR F P (vR F) g ρ (Builtin.copy_ ts t xs) (Builtin.copy_ ts t xs'):=by
 unfold Builtin.copy_
 cases ts[0]? with
 |none=>exact za
 |some sT=>
  rcases h.get? 0 with⟨e,e'⟩|⟨s,s',e,e',hs⟩
  ·simp only[e,e'];exact za
  rcases h.get? 1 with⟨f,f'⟩|⟨x,x',f,f',hx⟩
  ·simp only[e,e',f,f'];exact za
  simp only[e,e',f,f']
  refine z1t (zt _) fun d=>?_
  split
  ·cases hs with
   |nilsl l k=>exact SR.bind (zas hx) fun n n' ⟨en,hn⟩=>by subst en;exact z1t (z2c _) fun z=>SR.bind (z5m _ _ hx fun e=>by rw[hn e];simp) fun c c' hc=>zb (.int _ _)
   |slE a a'=>
    refine SR.bind (zas hx) fun n n' ⟨en,hn⟩=>?_
    subst en
    refine z1t (z2c _) fun z=>?_
    simp only[show n.min 0=0 from Nat.min_zero n]
    refine SR.bind (za5 _ hx) fun c c' ⟨e1,e2⟩=>?_
    subst e1 e2
    exact z25 (zb rfl) fun _=>zb (.int _ _)
   |sl o q l k hr=>exact SR.bind (zas hx) fun n n' ⟨en,hn⟩=>by subst en;exact z1t (z2c _) fun z=>SR.bind (z5m _ _ hx fun e=>by rw[hn e];simp) fun c c' hc=>z25 (z5k (.mk o q hr) hc.list 0) fun _=>zb (.int _ _)
   |_=>exact za
  ·exact za
theorem sr_clear(hz:Zs F P)(ts:Array TypeId)(t:TypeId){xs xs':Array Value}(h:AR F ρ xs xs'):SR F P (vR F) g ρ (Builtin.clear_ ts t xs) (Builtin.clear_ ts t xs'):=by
 unfold Builtin.clear_
 cases ts[0]? with
 |none=>exact za
 |some sT=>
  rcases h.get? 0 with⟨e,e'⟩|⟨s,s',e,e',hs⟩
  ·simp only[e,e'];exact za
  simp only[e,e']
  refine z1t (zt _) fun d=>?_
  have hu:VR F ρ (.tuple #[]) (.tuple #[]):=z7o
  cases hs with
  |nilmap=>cases d<;>exact zb hu
  |nilsl l k=>cases d<;>exact zb hu
  |slE a a'=>cases d<;>exact zb hu
  |sl o q l k hr=>
   cases l with
   |zero=>cases d<;>exact zb hu
   |succ l=>
    cases d with
    |slice e=>exact SR.bind (z3q hz _) fun z z' hzz=>z25 (z5k (.mk o q hr) (z7q hzz.cells _).list 0) fun _=>zb hu
    |_=>exact z47
  |_=>cases d<;>exact z47
theorem sr_len(ts:Array TypeId)(t:TypeId){xs xs':Array Value}(h:AR F ρ xs xs'):SR F P (vR F) g ρ (Builtin.len_ ts t xs) (Builtin.len_ ts t xs'):=by
 unfold Builtin.len_
 cases ts[0]? with
 |none=>exact za
 |some sT=>
  rcases h.get? 0 with⟨e,e'⟩|⟨s,s',e,e',hs⟩
  ·simp only[e,e'];exact za
  simp only[e,e']
  refine z1t (zt _) fun d=>?_
  cases d with
  |string=>cases hs<;>first|exact za|exact zb (.int _ _)
  |array n e=>exact zb (.int _ _)
  |pointer a=>
   refine z1t (zt _) fun d=>?_
   split
   ·exact zb (.int _ _)
   ·exact za
  |slice e=>cases hs<;>first|exact za|exact zb (.int _ _)
  |map _ _=>cases hs<;>first|exact za|exact zb (.int _ _)
  |chan _ _=>cases hs<;>first|exact za|exact zb (.int _ _)
  |_=>exact za
theorem sr_min2{x x' y y':Value}(hx:VR F ρ x x')(hy:VR F ρ y y'):SR F P (vR F) false ρ (Builtin.min2 x y) (Builtin.min2 x' y'):=by
 cases hx<;>cases hy<;>first
  |exact za
  |exact zm (by simp)
  |exact zb (.int _ _)
  |skip
 rename_i a b
 refine SR.bind (z1w .leq a b) fun v v' hv=>z25 (sr_asBool hv) fun b=>zb (.string _)
theorem sr_min(ts:Array TypeId)(t:TypeId){xs xs':Array Value}(h:AR F ρ xs xs'):SR F P (vR F) false ρ (Builtin.min_ ts t xs) (Builtin.min_ ts t xs'):=by
 unfold Builtin.min_
 have hl:=h.list
 generalize xs.toList=l at hl
 generalize xs'.toList=l' at hl
 cases hl with
 |nil=>exact za
 |cons hv hl=>
  show SR F P (vR F) false ρ (List.foldlM Builtin.min2 _ _) (List.foldlM Builtin.min2 _ _)
  rename_i a a' l l'
  revert a a'
  induction hl with
  |nil=>intro a a' hv;exact zb hv
  |cons hw _ ih=>
   intro a a' hv
   rw[List.foldlM_cons,List.foldlM_cons]
   exact SR.bind (sr_min2 hv hw) fun v v' hv=>ih hv
theorem sr_loadBytes{a a':Addr}(h:DR ρ a a'):∀ (n:Nat) (acc:ByteArray),SR F P (fun σ (s s':ByteArray)=>s=s'∧ρ.le σ∧(n=0∨σ.kn a.block (a.off+n))) true ρ (loadBytes a acc n) (loadBytes a' acc n):=by
 intro n
 induction n generalizing a a' ρ with
 |zero=>intro acc;exact zb ⟨rfl,Bij.le_refl _,.inl rfl⟩
 |succ n ih=>
  intro acc
  cases h with
  |@mk b c o s hr=>
   refine SR.loadK hr fun σ v v' hl hkl hkn hv=>?_
   cases hv with
   |int k m=>
    cases k<;>first
     |exact za
     |skip
    have hd:DR σ ((⟨b,o,s⟩:Addr).add 1) ((⟨c,o,s⟩:Addr).add 1):=(DR.mk o s (hl _ _ hr)).add 1
    cases n with
    |zero=>exact zb ⟨rfl,hl,.inr hkn⟩
    |succ n=>
     refine SR.mono (fun τ x x' ⟨e,h1,h2⟩=>⟨e,Bij.le_trans hl h1,.inr ?_⟩) (ih hd _)
     have:=h2.resolve_left (by omega)
     have e:((⟨b,o,s⟩:Addr).add 1).off+(n+1)=o+(n+1+1):=by show o+1+(n+1)=_;omega
     rw[e] at this
     exact this
   |_=>exact za
theorem ze5{a a':Addr}(h:DR ρ a a')(u:TypeId)(n:Nat):SR F P eqR g ρ (variablesAt a u n) (variablesAt a' u n):=by
 unfold variablesAt
 refine z1i ?_
 refine SR.bind (R:=eqR) (z6n h.blk) fun x x' e=>?_
 cases e
 rw[h.off]
 split<;>exact zb rfl
theorem sr_elemOf(t:TypeId):SR F P eqR g ρ (elemOf t) (elemOf t):=by
 unfold elemOf
 refine z1t (zt _) fun d=>?_
 split
 ·exact zb rfl
 ·exact za
theorem zdn(ts:Array TypeId)(t:TypeId){xs xs':Array Value}(h:AR F ρ xs xs'):SR F P (vR F) true ρ (Builtin.unsafeString_ ts t xs) (Builtin.unsafeString_ ts t xs'):=by
 unfold Builtin.unsafeString_
 by_cases h2:xs.size=2
 ·obtain⟨p,q,rfl⟩:∃ p q,xs=#[p,q]:=by
   match xs,h2 with
   |⟨[p,q]⟩,_=>exact⟨p,q,rfl⟩
  obtain⟨p',q',rfl⟩:∃ p q,xs'=#[p,q]:=by
   have:=h.size
   match xs',this with
   |⟨[p,q]⟩,_=>exact⟨p,q,rfl⟩
  have hp:=h.at_ 0 p p' rfl rfl
  have hq:=h.at_ 1 q q' rfl rfl
  have fin:∀ {a a':Option Addr},((a=none∧a'=none)∨∃ x x',a=some x∧a'=some x'∧DR ρ x x')→SR F P (vR F) true ρ (Builtin.unsafeString_ ts t #[.pointer a,q]) (Builtin.unsafeString_ ts t #[.pointer a',q']):=by
   intro a a' ha
   unfold Builtin.unsafeString_
   refine z25 (z8i hq) fun n=>?_
   cases ts[0]? with
   |none=>exact za
   |some pt=>
    dsimp only
    refine zy (fun _=>z4e ⟨by simp,by simp⟩) fun hn0=>zy (fun _=>z5f (by simp)) fun _=>?_
    rcases ha with⟨rfl,rfl⟩|⟨x,x',rfl,rfl,hx⟩
    ·exact zy (fun _=>zb (.string _)) fun _=>z3j ⟨by simp,by simp⟩
    ·refine zy (fun _=>zb (.string _)) fun hn1=>z1t (sr_elemOf _) fun e=>z25 (ze5 hx _ _) fun b=>?_
     refine zy (fun _=>?_) fun _=>zm (by simp)
     refine SR.bindN (sr_loadBytes hx _ _) fun σ s s' _ ⟨hs,hl,hk⟩=>?_
     subst hs
     refine z25 (sr_freeze (hx.mono hl) _ ?_) fun _=>zb (.string _)
     rcases hk with hk|hk
     ·omega
     ·exact⟨_,hk,Nat.le_succ _⟩
  cases hp with
  |nilptr=>exact fin (.inl ⟨rfl,rfl⟩)
  |ptr o s hr=>exact fin (.inr ⟨_,_,rfl,rfl,.mk o s hr⟩)
  |_=>exact za
 ·have:∀ (xs:Array Value),xs.size≠2→Builtin.unsafeString_ ts t xs=stuck "unsafe.String: a pointer and an integer expected" := by
   intro xs hx
   match xs,hx with
   |⟨[]⟩,_=>rfl
   |⟨[_]⟩,_=>rfl
   |⟨[_,_]⟩,hx=>exact absurd rfl hx
   |⟨_::_::_::_⟩,_=>rfl
  have e:=this xs h2
  unfold Builtin.unsafeString_ at e
  rw[e]
  exact za
theorem sr_makeFunc{f:FuncId}(hf:F f){xs xs' ys ys':Array Value}(h:AR F ρ xs xs')(k:AR F ρ ys ys'):SR F P (vR F) g ρ (Instr.makeFunc (.func f) xs ys) (Instr.makeFunc (.func f) xs' ys'):=
 zb (.func hf h.size h.at_ k.size k.at_)
theorem sr_range{t:TypeId}(ht:isStr P t=true){x x':Value}(h:VR F ρ x x'):SR F P (vR F) true ρ (Instr.range t x) (Instr.range t x'):=by
 unfold Instr.range
 refine SR.bind (z3c t) fun d d' hd=>?_
 obtain⟨rfl,hd⟩:=hd
 have newIt:∀ s,SR F P (vR F) true ρ (do pure (.pointer (some ⟨← newObj (.stringIter s 0),0,none⟩))) (do pure (.pointer (some ⟨← newObj (.stringIter s 0),0,none⟩))):=fun s=>
  SR.bindN (R:=fun σ r r'=>σ.rel r r') (g:=true) (SR.new (.iter s 0) fun σ r r' _ hr=>.pure hr) fun σ r r' _ hr=>zb (.ptr 0 none hr)
 simp only[isStr,hd] at ht
 cases d<;>try simp at ht
 cases h<;>first|exact z47|exact newIt _
theorem sr_next{x x':Value}(h:VR F ρ x x')(t:TypeId):SR F P (vR F) g ρ (Instr.next x true t) (Instr.next x' true t):=by
 unfold Instr.next
 have tup:∀ {xs:Array Value},(∀ v∈xs,VR F ρ v v)→VR F ρ (.tuple xs) (.tuple xs):=fun {xs} h=>.tuple rfl fun i v v' e e'=>by rw[e] at e';cases e';exact h v (Array.mem_of_getElem? e)
 cases h with
 |@ptr b c o s hr=>
  cases o with
  |succ o=>exact za
  |zero=>
   refine SR.bind (zcw hr) fun ob ob' ho=>?_
   cases ho with
   |iter s p=>
    dsimp only
    refine zy (fun _=>?_) fun _=>zb (tup fun v hv=>by simp at hv;subst hv;exact .bool _)
    exact z25 (sr_setObj hr (.iter _ _) (fun _ _ _ h=>by cases h)) fun _=>zb (tup fun v hv=>by
     simp at hv
     rcases hv with rfl|rfl|rfl
     ·exact .bool _
     ·exact .int _ _
     ·exact .int _ _)
   |_=>exact za
 |_=>exact za
theorem sr_goPanic{x x':Value}(h:VR F ρ x x'):SR F P (vR F) g ρ (Instr.panic x) (Instr.panic x'):=by
 cases h with
 |iface t h=>exact sr_panic
 |nilIface=>
  refine SR.dead fun w=>?_
  have pn:∀ w,∃ h w',Dead h∧(runtimePanic .panicNil:Sem Value).run P w=.halt h w':=fun w=>by
   simp only[runtimePanic,Sem.run_bind,program,Sem.run,Result.andThen_ok]
   unfold elemOf underlying
   simp only[Sem.run_bind,program,Sem.run,Result.andThen_ok]
   cases P.underlying P.rt.panicNilError with
   |none=>refine⟨_,_,?_,rfl⟩;trivial
   |some d=>cases d<;>(refine⟨_,_,?_,rfl⟩;trivial)
  simp only[Instr.panic,Sem.run_bind]
  unfold Instr.panicnil
  simp only[Sem.run_bind,sys,Sem.run,Result.andThen_ok]
  cases(w.sys .env).1 with
  |strings env=>
   simp only[Sem.run_bind,program,Sem.run,Result.andThen_ok]
   simp only[Sem.run_pure,Result.andThen_ok]
   split
   ·refine⟨_,_,?_,rfl⟩;trivial
   ·exact pn _
  |_=>refine⟨_,_,?_,rfl⟩;trivial
 |_=>exact za
end
structure Txt where
 F:Nat→Bool
 G:Nat→Bool
 Q:TypeId→Bool
def okV(F:Nat→Bool):Value→Bool
 |.bool _|.int .. | .string _|.pointer none|.slice none _ _|.nilIface|.nilFunc|.map none|.chan none=>true
 |.func (.func f) xs ys=>F f&&xs.size==0&&ys.size==0
 |_=>false
def okV1(F:Nat→Bool)(v:Value):Bool:=okV F v||match v with
 |.agg cs|.tuple cs=>cs.all (okV F)
 |_=>false
def okX(T:Txt):Operand→Bool
 |.tmp _=>true
 |.const v=>okV1 T.F v
 |.global g=>T.G g
 |.func f=>T.F f
def okB:Builtin→Bool
 |.append|.clear|.copy|.len|.min|.unsafeString=>true
 |_=>false
def okCall(T:Txt)(c:Call):Bool:=c.args.all (okX T)&&match c.callee with
 |.value f=>okX T f
 |.builtin b=>okB b
 |.invoke _ _=>false
def okO(P:Program)(T:Txt):Op→Bool
 |.move x|.assign x=>okX T x
 |.pick c a b=>okX T c&&okX T a&&okX T b
 |.alloc _=>true
 |.makeInterface t x=>okX T x&&Nat.blt t 220
 |.box _ x|.load _ x|.nilCheck x|.unOp _ _ x|.fieldAddr _ x _|.field _ x _|.extract x _|.panic x=>okX T x
 |.build _ ps|.buildSlice _ _ ps=>ps.all fun p=>okX T p.2
 |.binOp op t a x _=>okX T a&&okX T x&&(!(isCmp op)||(T.Q t&&gOk P t))
 |.store _ a x|.makeSlice _ a x|.indexAddr _ a x|.index _ a x=>okX T a&&okX T x
 |.convert s d x=>convOk P s d&&okX T x
 |.makeFunc (.func f) a b=>T.F f&&a.all (okX T)&&b.all (okX T)
 |.slice _ x lo hi mx=>okX T x&&lo.all (okX T)&&hi.all (okX T)&&mx.all (okX T)
 |.range t x=>isStr P t&&okX T x
 |.next x b=>b&&okX T x
 |.call c=>okCall T c
 |_=>false
def okC(P:Program)(T:Txt):Code→Bool
 |.skip|.exit _|.ret|.label _=>true
 |.region _ ops _=>ops.all fun o=>okO P T o.op
 |.seq a b=>okC P T a&&okC P T b
 |.cond c a b=>okX T c&&okC P T a&&okC P T b
 |.block _ c|.loop c=>okC P T c
 |_=>false
section
variable {F:Nat→Prop}{P:Program}{g:Bool}{ρ:Bij}{α β:Type}
theorem okV_vr{Fb:Nat→Bool}(hF:∀ f,Fb f=true→F f){v:Value}(h:okV Fb v=true):VR F ρ v v:=by
 unfold okV at h
 split at h<;>first|(constructor;done)|skip
 ·simp only[Bool.and_eq_true,beq_iff_eq] at h
  obtain⟨⟨h1,h2⟩,h3⟩:=h
  rename_i f xs ys
  have e1:xs=#[]:=Array.eq_empty_of_size_eq_zero h2
  have e2:ys=#[]:=Array.eq_empty_of_size_eq_zero h3
  subst e1 e2
  exact .func (hF _ h1) rfl (fun i v v' e=>by simp at e) rfl (fun i v v' e=>by simp at e)
 ·cases h
theorem okV1_vr{Fb:Nat→Bool}(hF:∀ f,Fb f=true→F f){v:Value}(h:okV1 Fb v=true):VR F ρ v v:=by
 simp only[okV1,Bool.or_eq_true] at h
 rcases h with h|h
 ·exact okV_vr hF h
 ·have all:∀ {cs:Array Value},cs.all (okV Fb)=true→∀ (i:Nat) (v v':Value),cs[i]?=some v→cs[i]?=some v'→VR F ρ v v':=fun {cs} h i v v' e e'=>by
   rw[e] at e';cases e'
   exact okV_vr hF (by rw[Array.all_eq_true'] at h;exact h v (Array.mem_of_getElem? e))
  split at h
  ·exact .agg rfl (all h)
  ·exact .tuple rfl (all h)
  ·cases h
structure ER(F:Nat→Prop)(T:Txt)(ρ:Bij)(e e':Operand→Value):Prop where
 at_:∀ x,okX T x=true→VR F ρ (e x) (e' x)
inductive NR(F:Nat→Prop)(P:Program)(σ:Bij):Next→Next→Prop
 |value {v v':Value} (h:VR F σ v v'):NR F P σ (.value v) (.value v')
 |skip:NR F P σ .skip .skip
 |enter {f:FuncId} {xs xs':Array Value} (hf:F f) (hb:∃ fn c,P.funcs[f]?=some fn∧fn.body=some c) (h:AR F σ xs xs'):NR F P σ (.enter f xs) (.enter f xs')
structure Fns(F:Nat→Prop)(P:Program)(G:Nat→Bool):Prop where
 fn:∀ f,F f→∃ fn,P.funcs[f]?=some fn∧(fn.name == "runtime.NumGoroutine")=false ∧
  (fn.body.isNone=false∨(fn.body.isNone=true∧Extern.findNext fn=none∧∃ e,Extern.find fn=some e∧∀ ρ:Bij,(∀ g,G g=true→ρ g g)→∀ xs xs',AR F ρ xs xs'→SR F P (vR F) true ρ (e xs) (e xs')))
theorem z3g{A A':Sem Value}(h:SR F P (vR F) true ρ A A'):SR F P (NR F P) true ρ (do pure (Next.value (← A))) (do pure (Next.value (← A'))):=
 SR.bindN h fun σ v v' _ hv=>zb (NR.value hv)
theorem sr_callFunc{G:Nat→Bool}(hf:Fns F P G)(hG:∀ g,G g=true→ρ g g){f:FuncId}(h:F f){xs xs':Array Value}(ha:AR F ρ xs xs'):SR F P (NR F P) true ρ (callFunc f xs) (callFunc f xs'):=by
 obtain⟨fn,e1,e2,e3⟩:=hf.fn f h
 unfold callFunc
 refine z1i ?_
 simp only[e1,e2]
 rcases e3 with e3|⟨e3,e4,e,e5,e6⟩
 ·simp only[e3]
  refine zb (.enter h ⟨fn,?_⟩ ha)
  cases hb:fn.body with
  |none=>rw[hb] at e3;cases e3
  |some c=>exact⟨c,e1,rfl⟩
 ·simp only[e3,e4,e5]
  show SR F P (NR F P) true ρ (do mark (.extern f);pure (Next.value (← e xs))) (do mark (.extern f);pure (Next.value (← e xs')))
  refine SR.mark (.inr ⟨f,rfl⟩) ?_
  exact z3g (e6 ρ hG xs xs' ha)
theorem sr_unit{A A':Sem Unit}(h:SR F P eqR true ρ A A'):SR F P (NR F P) true ρ (do A;pure Next.skip) (do A';pure Next.skip):=
 SR.bindN h fun σ v v' _ _=>zb .skip
theorem sr_builtin(hz:Zs F P){b:Builtin}(hb:okB b=true)(ts:Array TypeId)(t:TypeId)(cs:Array Bool){xs xs':Array Value}(h:AR F ρ xs xs'):SR F P (NR F P) true ρ (builtin b ts t cs xs) (builtin b ts t cs xs'):=by
 cases b<;>simp[okB] at hb
 ·exact z3g (sr_append hz ts t h)
 ·exact z3g (sr_clear hz ts t h)
 ·exact z3g (sr_copy ts t h)
 ·exact z3g (sr_len ts t h)
 ·exact z3g (sr_min ts t h).grow
 ·exact z3g (zdn ts t h)
theorem ar_maps{T:Txt}{e e':Operand→Value}(he:ER F T ρ e e'){xs:Array Operand}(h:xs.all (okX T)=true):AR F ρ (xs.map e) (xs.map e'):=by
 rw[Array.all_eq_true'] at h
 exact AR.map fun x hx=>he.at_ x (h x hx)
theorem or_map{T:Txt}{e e':Operand→Value}(he:ER F T ρ e e'){x:Option Operand}(h:x.all (okX T)=true):oR F ρ (x.map e) (x.map e'):=by
 cases x with
 |none=>exact .inl ⟨rfl,rfl⟩
 |some x=>exact .inr ⟨_,_,rfl,rfl,he.at_ x (by simpa using h)⟩
theorem sr_call{T:Txt}{G:Nat→Bool}(hz:Zs F P)(hf:Fns F P G)(hG:∀ g,G g=true→ρ g g){e e':Operand→Value}(he:ER F T ρ e e'){c:Call}(hc:okCall T c=true)(t:TypeId) :
  SR F P (NR F P) true ρ (do let d ← resolve e c t;invoke d.target d.args) (do let d ← resolve e' c t;invoke d.target d.args):=by
 simp only[okCall,Bool.and_eq_true] at hc
 obtain⟨h1,h2⟩:=hc
 have ha:=ar_maps he h1
 unfold resolve
 cases hcal:c.callee with
 |invoke _ _=>rw[hcal] at h2;cases h2
 |builtin b=>
  rw[hcal] at h2
  exact sr_builtin hz h2 _ _ _ ha
 |value x=>
  rw[hcal] at h2
  have hx:=he.at_ x h2
  dsimp only
  generalize e x=u at hx
  generalize e' x=u' at hx
  cases hx with
  |func hf' h1 h2 h3 h4=>exact sr_callFunc hf hG hf' (AR.append (AR.append ⟨h1,h2⟩ ha) ⟨h3,h4⟩)
  |nilFunc=>exact z3j (e:=.nilDeref) ⟨by simp,by simp⟩
  |hole h=>exact .dead fun w=>(by refine⟨_,w,?_,rfl⟩;trivial)
  |_=>exact z47
theorem sr_execOp{T:Txt}(hcq:zbz P T.Q)(hz:Zs F P)(hf:Fns F P T.G)(hT:∀ f,T.F f=true→F f)(hG:∀ g,T.G g=true→ρ g g)(hb:Bi P ρ){e e':Operand→Value}(he:ER F T ρ e e')(o:Oper)(ho:okO P T o.op=true) :
  SR F P (NR F P) true ρ (execOp e o) (execOp e' o):=by
 unfold execOp
 cases hop:o.op with
 |move x=>rw[hop] at ho;exact zb (.value (he.at_ x ho))
 |assign x=>rw[hop] at ho;exact zb (.value (he.at_ x ho))
 |pick c a b=>
  rw[hop] at ho
  simp only[okO,Bool.and_eq_true] at ho
  dsimp only
  refine SR.bind (R:=eqR) (sr_asBool (he.at_ c ho.1.1)) fun b b' e=>?_
  cases e
  refine zb (.value ?_)
  split
  ·exact he.at_ _ ho.1.2
  ·exact he.at_ _ ho.2
 |alloc t=>exact z3g (sr_alloc hz t)
 |box t x=>rw[hop] at ho;exact z3g (sr_box t (he.at_ x ho))
 |build t ps=>
  rw[hop] at ho
  refine z3g (sr_build hz t (pr_of fun p hp=>he.at_ _ ?_))
  have ho:ps.all (fun p=>okX T p.2)=true:=ho
  rw[Array.all_eq_true'] at ho;exact ho p hp
 |buildSlice t n ps=>
  rw[hop] at ho
  refine z3g (zfl hz t n (pr_of fun p hp=>he.at_ _ ?_))
  have ho:ps.all (fun p=>okX T p.2)=true:=ho
  rw[Array.all_eq_true'] at ho;exact ho p hp
 |load t a=>rw[hop] at ho;exact z3g (sr_loadAt t (he.at_ a ho))
 |store t a x=>
  rw[hop] at ho
  simp only[okO,Bool.and_eq_true] at ho
  exact sr_unit (sr_storeAt t (he.at_ a ho.1) (he.at_ x ho.2))
 |nilCheck x=>
  rw[hop] at ho
  have hx:=he.at_ x ho
  dsimp only
  generalize e x=u at hx
  generalize e' x=u' at hx
  cases hx with
  |hole h=>exact .dead fun w=>(by refine⟨_,w,?_,rfl⟩;trivial)
  |_=>first|exact zb (.value (by constructor<;>assumption))|exact z3j (e:=.nilDeref) ⟨by simp,by simp⟩
 |binOp op t x y yt=>
  rw[hop] at ho
  simp only[okO,Bool.and_eq_true] at ho
  have hq:isCmp op=true→T.Q t=true∧gOk P t=true:=fun h=>by
   have:=ho.2
   rw[h] at this
   simpa using this
  refine z3g ?_
  have hx:=he.at_ x ho.1.1
  have hy:=he.at_ y ho.1.2
  generalize e x=u at hx
  generalize e' x=u' at hx
  generalize e y=w at hy
  generalize e' y=w' at hy
  rcases hx.split with rfl|sx
  ·exact .dead (dead_binOpL hcq op t x y w fun h=>(hq h).1)
  rcases hy.split with rfl|sy
  ·exact .dead (dead_binOpR hcq op t x y u fun h=>(hq h).1)
  exact SR.bind (R:=eqR) (sr_eqGuard op t x y (fun h=>(hq h).2) sx sy) fun _ _ _=>sr_binOp hcq hb op t (fun h=>(hq h).1) sx sy
 |unOp op t x=>rw[hop] at ho;exact z3g (sr_unary op (he.at_ x ho))
 |convert s d x=>
  rw[hop] at ho
  simp only[okO,Bool.and_eq_true] at ho
  exact z3g (sr_convert ho.1 (he.at_ x ho.2))
 |makeInterface t x=>
  rw[hop] at ho
  simp only[okO,Bool.and_eq_true] at ho
  exact z3g (zc4 t (Nat.le_of_ble_eq_true ho.2) (he.at_ x ho.1))
 |makeFunc fn a b=>
  rw[hop] at ho
  cases fn with
  |func f=>
   simp only[okO,Bool.and_eq_true] at ho
   exact z3g (sr_makeFunc (hT f ho.1.1) (ar_maps he ho.1.2) (ar_maps he ho.2))
  |_=>cases ho
 |makeSlice t l c=>
  rw[hop] at ho
  simp only[okO,Bool.and_eq_true] at ho
  exact z3g (sr_makeSlice hz t (he.at_ l ho.1) (he.at_ c ho.2))
 |slice t x lo hi mx=>
  rw[hop] at ho
  simp only[okO,Bool.and_eq_true] at ho
  exact z3g (sr_sliceAt t (he.at_ x ho.1.1.1) (or_map he ho.1.1.2) (or_map he ho.1.2) (or_map he ho.2))
 |fieldAddr t x f=>rw[hop] at ho;exact z3g (sr_fieldAt t (he.at_ x ho) f)
 |field t x f=>rw[hop] at ho;exact z3g (sr_field t (he.at_ x ho) f)
 |indexAddr t x i=>
  rw[hop] at ho
  simp only[okO,Bool.and_eq_true] at ho
  exact z3g (sr_indexAt t (he.at_ x ho.1) (he.at_ i ho.2))
 |index t x i=>
  rw[hop] at ho
  simp only[okO,Bool.and_eq_true] at ho
  exact z3g (sr_index t (he.at_ x ho.1) (he.at_ i ho.2))
 |range t x=>
  rw[hop] at ho
  simp only[okO,Bool.and_eq_true] at ho
  exact z3g (sr_range ho.1 (he.at_ x ho.2))
 |next x b=>
  rw[hop] at ho
  simp only[okO,Bool.and_eq_true] at ho
  obtain⟨rfl,ho⟩:=ho
  exact z3g (sr_next (he.at_ x ho) _)
 |extract x i=>rw[hop] at ho;exact z3g (sr_extract (he.at_ x ho) i)
 |call c=>rw[hop] at ho;exact sr_call hz hf hG he ho _
 |panic x=>rw[hop] at ho;exact z3g (sr_goPanic (he.at_ x ho))
 |_=>rw[hop] at ho;cases ho
end
end Go.Mn
