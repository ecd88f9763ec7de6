/- Two runs side by side: a lone one, and the same code in company, in which blocks bear other numbers. Here: values, heaps and small programs ('Sem') that correspond; their runs correspond. No program in sight. -/
import Derived.Calls
import Derived.Laws.Sem
set_option linter.all false
namespace Go.Mn
structure Bij where
 rel:Nat→Nat→Prop
 kn:Nat→Nat→Prop
instance : CoeFun Bij (fun _ => Nat → Nat → Prop) := ⟨Bij.rel⟩
def Bij.le(ρ σ:Bij):Prop:=∀ a b,ρ a b→σ a b
inductive VR(F:Nat→Prop)(ρ:Bij):Value→Value→Prop
 |bool (b:Bool):VR F ρ (.bool b) (.bool b)
 |int (k:IntKind) (n:Int):VR F ρ (.int k n) (.int k n)
 |string (s:ByteArray):VR F ρ (.string s) (.string s)
 |nilptr:VR F ρ (.pointer none) (.pointer none)
 |ptr {b c:Nat} (o:Nat) (s:Option Nat) (h:ρ b c):VR F ρ (.pointer (some ⟨b,o,s⟩)) (.pointer (some ⟨c,o,s⟩))
 |nilsl (l k:Nat):VR F ρ (.slice none l k) (.slice none l k)
 |sl {b c:Nat} (o:Nat) (s:Option Nat) (l k:Nat) (h:ρ b c):VR F ρ (.slice (some ⟨b,o,s⟩) l k) (.slice (some ⟨c,o,s⟩) l k)
 |slE (a a':Addr):VR F ρ (.slice (some a) 0 0) (.slice (some a') 0 0)
 |nilmap:VR F ρ (.map none) (.map none)
 |nilchan:VR F ρ (.chan none) (.chan none)
 |func {f:Nat} {xs xs' ys ys':Array Value} (hf:F f) (h1:xs.size=xs'.size) (h2:∀ (i:Nat) (v v':Value),xs[i]?=some v→xs'[i]?=some v'→VR F ρ v v')
   (h3:ys.size=ys'.size) (h4:∀ (i:Nat) (v v':Value),ys[i]?=some v→ys'[i]?=some v'→VR F ρ v v'):VR F ρ (.func (.func f) xs ys) (.func (.func f) xs' ys')
 |nilFunc:VR F ρ .nilFunc .nilFunc
 |iface (t:TypeId) (ht:t<220) {v v':Value} (h:VR F ρ v v'):VR F ρ (.iface t v) (.iface t v')
 |nilIface:VR F ρ .nilIface .nilIface
 |agg {xs xs':Array Value} (h1:xs.size=xs'.size) (h2:∀ (i:Nat) (v v':Value),xs[i]?=some v→xs'[i]?=some v'→VR F ρ v v'):VR F ρ (.agg xs) (.agg xs')
 |hole {v':Value} (h:v'.cells=#[v']∧(∀ xs,v'≠.agg xs∧v'≠.tuple xs)∧∀ b,v'≠.bool b):VR F ρ .nilFunc v'
 |tuple {xs xs':Array Value} (h1:xs.size=xs'.size) (h2:∀ (i:Nat) (v v':Value),xs[i]?=some v→xs'[i]?=some v'→VR F ρ v v'):VR F ρ (.tuple xs) (.tuple xs')
structure AR(F:Nat→Prop)(ρ:Bij)(xs xs':Array Value):Prop where
 size:xs.size=xs'.size
 at_:∀ (i:Nat) (v v':Value),xs[i]?=some v→xs'[i]?=some v'→VR F ρ v v'
section
variable {F:Nat→Prop}{ρ σ:Bij}
theorem VR.mono(h:∀ a b,ρ a b→σ a b){v v':Value}(r:VR F ρ v v'):VR F σ v v':=by
 induction r with
 |bool b=>exact .bool b
 |int k n=>exact .int k n
 |string s=>exact .string s
 |nilptr=>exact .nilptr
 |ptr o s hr=>exact .ptr o s (h _ _ hr)
 |nilsl l k=>exact .nilsl l k
 |sl o s l k hr=>exact .sl o s l k (h _ _ hr)
 |slE a a'=>exact .slE a a'
 |nilmap=>exact .nilmap
 |nilchan=>exact .nilchan
 |func hf h1 _ h3 _ ih1 ih2=>exact .func hf h1 ih1 h3 ih2
 |nilFunc=>exact .nilFunc
 |iface t ht _ ih=>exact .iface t ht ih
 |nilIface=>exact .nilIface
 |agg h1 _ ih=>exact .agg h1 ih
 |hole h=>exact .hole h
 |tuple h1 _ ih=>exact .tuple h1 ih
theorem AR.mono(h:∀ a b,ρ a b→σ a b){v v':Array Value}(r:AR F ρ v v'):AR F σ v v':=⟨r.size,fun i a b e e'=>(r.at_ i a b e e').mono h⟩
theorem AR.get?{xs ys:Array Value}(r:AR F ρ xs ys)(i:Nat):(xs[i]?=none∧ys[i]?=none)∨∃ v v',xs[i]?=some v∧ys[i]?=some v'∧VR F ρ v v':=by
 by_cases h:i<xs.size
 ·have h':i<ys.size:=r.size▸h
  exact .inr ⟨xs[i],ys[i],by simp[h],by simp[h'],r.at_ i _ _ (by simp[h]) (by simp[h'])⟩
 ·have h':¬ i<ys.size:=r.size▸h
  exact .inl ⟨by simp;omega,by simp;omega⟩
theorem AR.nil:AR F ρ #[] #[]:=⟨rfl,fun i v v' h=>by simp at h⟩
theorem AR.push{xs ys:Array Value}{v v':Value}(r:AR F ρ xs ys)(h:VR F ρ v v'):AR F ρ (xs.push v) (ys.push v'):=by
 refine⟨by simp[r.size],fun i a b e e'=>?_⟩
 rw[Array.getElem?_push] at e e'
 rw[r.size] at e
 split at e<;>rename_i hi
 ·rw[if_pos hi] at e';cases e;cases e';exact h
 ·rw[if_neg hi] at e';exact r.at_ i a b e e'
theorem AR.append{xs ys xs' ys':Array Value}(r:AR F ρ xs ys)(r':AR F ρ xs' ys'):AR F ρ (xs++xs') (ys++ys'):=by
 refine⟨by simp[r.size,r'.size],fun i a b e e'=>?_⟩
 rw[Array.getElem?_append] at e e'
 rw[r.size] at e
 split at e<;>rename_i hi
 ·rw[if_pos hi] at e';exact r.at_ i a b e e'
 ·rw[if_neg hi] at e';exact r'.at_ _ a b e e'
theorem AR.set{xs ys:Array Value}{v v':Value}(r:AR F ρ xs ys)(j:Nat)(h:VR F ρ v v'):AR F ρ (xs.setIfInBounds j v) (ys.setIfInBounds j v'):=by
 refine⟨by simp[r.size],fun i a b e e'=>?_⟩
 rw[Array.getElem?_setIfInBounds] at e e'
 rw[r.size] at e
 split at e<;>rename_i hi
 ·rw[if_pos hi] at e'
  split at e<;>rename_i hj
  ·rw[if_pos hj] at e';cases e;cases e';exact h
  ·cases e
 ·rw[if_neg hi] at e';exact r.at_ i a b e e'
theorem AR.extract{xs ys:Array Value}(r:AR F ρ xs ys)(a b:Nat):AR F ρ (xs.extract a b) (ys.extract a b):=by
 refine⟨by simp[r.size],fun i v w e e'=>?_⟩
 rw[Array.getElem?_extract] at e e'
 rw[r.size] at e
 split at e<;>rename_i hi
 ·rw[if_pos hi] at e';exact r.at_ _ _ _ e e'
 ·cases e
theorem AR.getD{xs ys:Array Value}{d d':Value}(r:AR F ρ xs ys)(hd:VR F ρ d d')(i:Nat):VR F ρ (xs.getD i d) (ys.getD i d'):=by
 simp only[Array.getD_eq_getD_getElem?]
 rcases r.get? i with⟨e,e'⟩|⟨v,v',e,e',h⟩
 ·rw[e,e'];exact hd
 ·rw[e,e'];exact h
theorem AR.one{v v':Value}(h:VR F ρ v v'):AR F ρ #[v] #[v']:=AR.nil.push h
theorem AR.replicate{v v':Value}(h:VR F ρ v v')(n:Nat):AR F ρ (Array.replicate n v) (Array.replicate n v'):=by
 refine⟨by simp,fun i a b e e'=>?_⟩
 simp only[Array.getElem?_replicate] at e e'
 split at e<;>rename_i hi
 ·rw[if_pos hi] at e';cases e;cases e';exact h
 ·cases e
theorem AR.map{α:Type}{f g:α→Value}{xs:Array α}(h:∀ x∈xs,VR F ρ (f x) (g x)):AR F ρ (xs.map f) (xs.map g):=by
 refine⟨by simp,fun i a b e e'=>?_⟩
 simp only[Array.getElem?_map,Option.map_eq_some_iff] at e e'
 obtain⟨x,hx,rfl⟩:=e
 obtain⟨y,hy,rfl⟩:=e'
 rw[hx] at hy;cases hy
 exact h x (Array.mem_of_getElem? hx)
theorem z7o:VR F ρ undef undef:=.tuple rfl fun i v v' h=>by simp at h
theorem VR.cells{v v':Value}(r:VR F ρ v v'):AR F ρ v.cells v'.cells:=by
 cases r with
 |agg h1 h2=>exact⟨h1,h2⟩
 |hole h=>rw[h.1];exact AR.one (.hole h)
 |_=>exact AR.one (by constructor<;>assumption)
end
def Full(n:Nat)(fz:Nat×Nat):Prop:=fz.1=0∧n<fz.2
inductive BR(F:Nat→Prop)(ρ:Bij):Obj→Obj→Prop
 |cells {c c':Array Value} (e:TypeId) {fz fz':Nat×Nat} (h:AR F ρ c c') (hf:fz=fz'∨(Full c.size fz∧fz'.2≤fz.2)):BR F ρ (.cells c e fz) (.cells c' e fz')
 |iter (s:ByteArray) (p:Nat):BR F ρ (.stringIter s p) (.stringIter s p)
 |number {b c:Nat} (o:Nat) (s:Option Nat) (l:Bool) (h:ρ b c):BR F ρ (.number ⟨b,o,s⟩ l) (.number ⟨c,o,s⟩ l)
theorem BR.mono{F:Nat→Prop}{ρ σ:Bij}(h:∀ a b,ρ a b→σ a b){o o':Obj}(r:BR F ρ o o'):BR F σ o o':=by
 cases r with
 |cells e ha hf=>exact .cells e (ha.mono h) hf
 |iter s p=>exact .iter s p
 |number o s l hr=>exact .number o s l (h _ _ hr)
def Dead:Halt→Prop
 |.panic _|.stuck _=>True
 |.unsupported (.initOrder _)=>False
 |.unsupported _=>True
 |_=>False
theorem Bij.le_refl(ρ:Bij):ρ.le ρ:=fun _ _ h=>h
theorem Bij.le_trans{ρ σ τ:Bij}(h:ρ.le σ)(k:σ.le τ):ρ.le τ:=fun a b r=>k a b (h a b r)
inductive SR(F:Nat→Prop)(P:Program){α:Type}(R:Bij→α→α→Prop):Bool→Bij→Sem α→Sem α→Prop
 |pure {g:Bool} {ρ:Bij} {a a':α} (h:R ρ a a'):SR F P R g ρ (.pure a) (.pure a')
 |load {g:Bool} {ρ:Bij} {b c o:Nat} {s:Option Nat} {k k':Value→Sem α} (hr:ρ b c) (h:∀ v v',VR F ρ v v'→SR F P R g ρ (k v) (k' v')):SR F P R g ρ (.load .plain ⟨b,o,s⟩ k) (.load .plain ⟨c,o,s⟩ k')
 |loadK {ρ:Bij} {b c o:Nat} {s:Option Nat} {k k':Value→Sem α} (hr:ρ b c) (h:∀ (σ:Bij) v v',ρ.le σ→(∀ b m,ρ.kn b m→σ.kn b m)→σ.kn b (o+1)→VR F σ v v'→SR F P R true σ (k v) (k' v')):SR F P R true ρ (.load .plain ⟨b,o,s⟩ k) (.load .plain ⟨c,o,s⟩ k')
 |shapeK {ρ:Bij} {r r':Nat} {k k':Option (TypeId×Nat)→Sem α} (hr:ρ r r') (h:∀ (σ:Bij) x,ρ.le σ→(∀ e m,x=some (e,m)→σ.kn r m)→SR F P R true σ (k x) (k' x)):SR F P R true ρ (.shape r k) (.shape r' k')
 |store {g:Bool} {ρ:Bij} {b c o:Nat} {s:Option Nat} {v v':Value} {k k':Sem α} (hr:ρ b c) (hv:VR F ρ v v') (h:SR F P R g ρ k k'):SR F P R g ρ (.store .plain ⟨b,o,s⟩ v k) (.store .plain ⟨c,o,s⟩ v' k')
 |new {ρ:Bij} {o o':Obj} {k k':Nat→Sem α} (ho:BR F ρ o o') (h:∀ (σ:Bij) (r r':Nat),ρ.le σ→σ r r'→SR F P R true σ (k r) (k' r')):SR F P R true ρ (.new o k) (.new o' k')
 |shape {g:Bool} {ρ:Bij} {r r':Nat} {k k':Option (TypeId×Nat)→Sem α} (hr:ρ r r') (h:∀ x,SR F P R g ρ (k x) (k' x)):SR F P R g ρ (.shape r k) (.shape r' k')
 |freeze {g:Bool} {ρ:Bij} {b c o n:Nat} {s:Option Nat} {k k':Sem α} (hr:ρ b c) (hb:∃ m,ρ.kn b m∧o+n≤m+1) (h:SR F P R g ρ k k'):SR F P R g ρ (.freeze ⟨b,o,s⟩ n k) (.freeze ⟨c,o,s⟩ n k')
 |frozen {g:Bool} {ρ:Bij} {b c o:Nat} {s:Option Nat} {k k':Bool→Sem α} (hr:ρ b c) (h:∀ x x',(x'=true→x=true)→SR F P R g ρ (k x) (k' x')):SR F P R g ρ (.frozen ⟨b,o,s⟩ k) (.frozen ⟨c,o,s⟩ k')
 |getObj {g:Bool} {ρ:Bij} {r r':Nat} {k k':Obj→Sem α} (hr:ρ r r') (h:∀ o o',BR F ρ o o'→SR F P R g ρ (k o) (k' o')):SR F P R g ρ (.getObj r k) (.getObj r' k')
 |setObj {g:Bool} {ρ:Bij} {r r':Nat} {o o':Obj} {k k':Sem α} (hr:ρ r r') (ho:BR F ρ o o') (hn:∀ c e fz,o≠.cells c e fz) (h:SR F P R g ρ k k'):SR F P R g ρ (.setObj r o k) (.setObj r' o' k')
 |choose {g:Bool} {ρ:Bij} {q:Question} {k k':Nat→Sem α} (h:∀ n,SR F P R g ρ (k n) (k' n)):SR F P R g ρ (.choose q k) (.choose q k')
 |chooseL {g:Bool} {ρ:Bij} {q:Question} {k:Nat→Sem α} {B:Sem α} (hq:q.forced=false) (t:Nat) (h:SR F P R g ρ (k (q.cut t)) B):SR F P R g ρ (.choose q k) B
 |shapeR {g:Bool} {ρ:Bij} {r:Nat} {A:Sem α} {k':Option (TypeId×Nat)→Sem α} (h:∀ x,SR F P R g ρ A (k' x)):SR F P R g ρ A (.shape r k')
 |frozenR {g:Bool} {ρ:Bij} {a:Addr} {A:Sem α} {k':Bool→Sem α} (h:∀ x,SR F P R g ρ A (k' x)):SR F P R g ρ A (.frozen a k')
 |shapeL {g:Bool} {ρ:Bij} {r:Nat} {k:Option (TypeId×Nat)→Sem α} {B:Sem α} (h:∀ x,SR F P R g ρ (k x) B):SR F P R g ρ (.shape r k) B
 |frozenL {g:Bool} {ρ:Bij} {a:Addr} {k:Bool→Sem α} {B:Sem α} (h:∀ x,SR F P R g ρ (k x) B):SR F P R g ρ (.frozen a k) B
 |markL {g:Bool} {ρ:Bij} {m:Mark} {k B:Sem α} (h:SR F P R g ρ k B):SR F P R g ρ (.mark m k) B
 |program {g:Bool} {ρ:Bij} {k k':Program→Sem α} (h:SR F P R g ρ (k P) (k' P)):SR F P R g ρ (.program k) (.program k')
 |mark {g:Bool} {ρ:Bij} {m:Mark} {k k':Sem α} (hm:m=.noRoom∨∃ f,m=.extern f) (h:SR F P R g ρ k k'):SR F P R g ρ (.mark m k) (.mark m k')
 |halt {g:Bool} {ρ:Bij} {h:Halt} {B:Sem α} (hd:Dead h):SR F P R g ρ (.halt h) B
 |dead {g:Bool} {ρ:Bij} {A B:Sem α} (hd:∀ w,∃ h w',Dead h∧A.run P w=.halt h w'):SR F P R g ρ A B
section
variable {F:Nat→Prop}{P:Program}{α β:Type}
theorem dead_bind{A:Sem α}(hd:∀ w,∃ h w',Dead h∧A.run P w=.halt h w')(f:α→Sem β):∀ w,∃ h w',Dead h∧(A.bind f).run P w=.halt h w':=fun w=>by
 obtain⟨h,w',d,e⟩:=hd w
 exact⟨h,w',d,by rw[Sem.run_bind',e];rfl⟩
theorem SR.grow{R:Bij→α→α→Prop}{g:Bool}{ρ:Bij}{A A':Sem α}(r:SR F P R g ρ A A'):SR F P R true ρ A A':=by
 induction r with
 |pure hr=>exact .pure hr
 |load hr _ ih=>exact .load hr ih
 |loadK hr _ ih=>exact .loadK hr ih
 |shapeK hr _ ih=>exact .shapeK hr ih
 |store hr hv _ ih=>exact .store hr hv ih
 |new ho _ ih=>exact .new ho ih
 |shape hr _ ih=>exact .shape hr ih
 |freeze hr hb _ ih=>exact .freeze hr hb ih
 |frozen hr _ ih=>exact .frozen hr ih
 |getObj hr _ ih=>exact .getObj hr ih
 |setObj hr ho hn _ ih=>exact .setObj hr ho hn ih
 |choose _ ih=>exact .choose ih
 |chooseL hq t _ ih=>exact .chooseL hq t ih
 |shapeR _ ih=>exact .shapeR ih
 |frozenR _ ih=>exact .frozenR ih
 |shapeL _ ih=>exact .shapeL ih
 |frozenL _ ih=>exact .frozenL ih
 |markL _ ih=>exact .markL ih
 |program _ ih=>exact .program ih
 |mark hm _ ih=>exact .mark hm ih
 |halt hd=>exact .halt hd
 |dead hd=>exact .dead hd
theorem SR.mono{R R':Bij→α→α→Prop}{g:Bool}{ρ:Bij}(h:∀ σ a a',R σ a a'→R' σ a a'){A A':Sem α}(r:SR F P R g ρ A A'):SR F P R' g ρ A A':=by
 induction r with
 |pure hr=>exact .pure (h _ _ _ hr)
 |load hr _ ih=>exact .load hr ih
 |loadK hr _ ih=>exact .loadK hr ih
 |shapeK hr _ ih=>exact .shapeK hr ih
 |store hr hv _ ih=>exact .store hr hv ih
 |new ho _ ih=>exact .new ho ih
 |shape hr _ ih=>exact .shape hr ih
 |freeze hr hb _ ih=>exact .freeze hr hb ih
 |frozen hr _ ih=>exact .frozen hr ih
 |getObj hr _ ih=>exact .getObj hr ih
 |setObj hr ho hn _ ih=>exact .setObj hr ho hn ih
 |choose _ ih=>exact .choose ih
 |chooseL hq t _ ih=>exact .chooseL hq t ih
 |shapeR _ ih=>exact .shapeR ih
 |frozenR _ ih=>exact .frozenR ih
 |shapeL _ ih=>exact .shapeL ih
 |frozenL _ ih=>exact .frozenL ih
 |markL _ ih=>exact .markL ih
 |program _ ih=>exact .program ih
 |mark hm _ ih=>exact .mark hm ih
 |halt hd=>exact .halt hd
 |dead hd=>exact .dead hd
theorem SR.bind{R:Bij→α→α→Prop}{R':Bij→β→β→Prop}{g:Bool}{ρ:Bij}{A A':Sem α}{f f':α→Sem β}(r:SR F P R false ρ A A')(h:∀ a a',R ρ a a'→SR F P R' g ρ (f a) (f' a')) :
  SR F P R' g ρ (A >>= f) (A' >>= f'):=by
 show SR F P R' g ρ (A.bind f) (A'.bind f')
 generalize hg:false=q at r
 induction r with
 |pure hr=>exact h _ _ hr
 |load hr _ ih=>exact .load hr fun v v' hv=>ih v v' hv h hg
 |loadK hr _ ih=>cases hg
 |shapeK hr _ ih=>cases hg
 |store hr hv _ ih=>exact .store hr hv (ih h hg)
 |new ho _ ih=>cases hg
 |shape hr _ ih=>exact .shape hr fun x=>ih x h hg
 |freeze hr hb _ ih=>exact .freeze hr hb (ih h hg)
 |frozen hr _ ih=>exact .frozen hr fun x x' hx=>ih x x' hx h hg
 |getObj hr _ ih=>exact .getObj hr fun o o' ho=>ih o o' ho h hg
 |setObj hr ho hn _ ih=>exact .setObj hr ho hn (ih h hg)
 |choose _ ih=>exact .choose fun n=>ih n h hg
 |chooseL hq t _ ih=>exact .chooseL hq t (ih h hg)
 |shapeR _ ih=>exact .shapeR fun x=>ih x h hg
 |frozenR _ ih=>exact .frozenR fun x=>ih x h hg
 |shapeL _ ih=>exact .shapeL fun x=>ih x h hg
 |frozenL _ ih=>exact .frozenL fun x=>ih x h hg
 |markL _ ih=>exact .markL (ih h hg)
 |program _ ih=>exact .program (ih h hg)
 |mark hm _ ih=>exact .mark hm (ih h hg)
 |halt hd=>exact .halt hd
 |dead hd=>exact .dead (dead_bind hd f)
theorem SR.bindN{R:Bij→α→α→Prop}{R':Bij→β→β→Prop}{g:Bool}{ρ:Bij}{A A':Sem α}{f f':α→Sem β}(r:SR F P R g ρ A A')(h:∀ (σ:Bij) a a',ρ.le σ→R σ a a'→SR F P R' true σ (f a) (f' a')) :
  SR F P R' true ρ (A >>= f) (A' >>= f'):=by
 show SR F P R' true ρ (A.bind f) (A'.bind f')
 induction r with
 |pure hr=>exact h _ _ _ (Bij.le_refl _) hr
 |load hr _ ih=>exact .load hr fun v v' hv=>ih v v' hv h
 |loadK hr _ ih=>exact .loadK hr fun σ v v' hl hk hn hv=>ih σ v v' hl hk hn hv fun τ a a' hl' ha=>h τ a a' (Bij.le_trans hl hl') ha
 |shapeK hr _ ih=>exact .shapeK hr fun σ x hl hx=>ih σ x hl hx fun τ a a' hl' ha=>h τ a a' (Bij.le_trans hl hl') ha
 |store hr hv _ ih=>exact .store hr hv (ih h)
 |new ho _ ih=>exact .new ho fun σ r r' hl hr=>ih σ r r' hl hr fun τ a a' hl' ha=>h τ a a' (Bij.le_trans hl hl') ha
 |shape hr _ ih=>exact .shape hr fun x=>ih x h
 |freeze hr hb _ ih=>exact .freeze hr hb (ih h)
 |frozen hr _ ih=>exact .frozen hr fun x x' hx=>ih x x' hx h
 |getObj hr _ ih=>exact .getObj hr fun o o' ho=>ih o o' ho h
 |setObj hr ho hn _ ih=>exact .setObj hr ho hn (ih h)
 |choose _ ih=>exact .choose fun n=>ih n h
 |chooseL hq t _ ih=>exact .chooseL hq t (ih h)
 |shapeR _ ih=>exact .shapeR fun x=>ih x h
 |frozenR _ ih=>exact .frozenR fun x=>ih x h
 |shapeL _ ih=>exact .shapeL fun x=>ih x h
 |frozenL _ ih=>exact .frozenL fun x=>ih x h
 |markL _ ih=>exact .markL (ih h)
 |program _ ih=>exact .program (ih h)
 |mark hm _ ih=>exact .mark hm (ih h)
 |halt hd=>exact .halt hd
 |dead hd=>exact .dead (dead_bind hd f)
end
structure Bi(P:Program)(ρ:Bij):Prop where
 fn:∀ {a b c},ρ a b→ρ a c→b=c
 inj:∀ {a b c},ρ a c→ρ b c→a=b
 glob:∀ {a b},ρ a b→(a<P.globals.size∨b<P.globals.size)→a=b
def z5t(w:World)(r:Nat):Prop:=∃ c e fz,w.heap[r]?=some (.cells c e fz)∧Full c.size fz
def SameC(o o':Option Obj):Prop:=o=o'∨∃ c e fz fz',o=some (.cells c e fz)∧o'=some (.cells c e fz')∧fz'.2≤max fz.2 (c.size+1)
theorem SameC.trans{a b c:Option Obj}(h:SameC a b)(k:SameC b c):SameC a c:=by
 rcases h with rfl|⟨c1,e1,f1,f1',rfl,rfl,h3⟩
 ·exact k
 ·rcases k with rfl|⟨c2,e2,f2,f2',h2,rfl,h4⟩
  ·exact .inr ⟨c1,e1,f1,f1',rfl,rfl,h3⟩
  ·cases h2;exact .inr ⟨c1,e1,f1,f2',rfl,rfl,by omega⟩
def MkLe(a b:Nat×Nat):Prop:=a=b∨(b.1<b.2∧(a.1=a.2∨(b.1≤a.1∧a.2≤b.2)))
theorem MkLe.trans{a b c:Nat×Nat}(h:MkLe a b)(k:MkLe b c):MkLe a c:=by
 rcases h with rfl|⟨h1,h2⟩
 ·exact k
 ·rcases k with rfl|⟨k1,k2⟩
  ·exact .inr ⟨h1,h2⟩
  ·refine .inr ⟨k1,?_⟩
   rcases h2 with h2|h2
   ·exact .inl h2
   ·exact .inr (by omega)
theorem MkLe.antisymm{a b:Nat×Nat}(h:MkLe a b)(k:MkLe b a):a=b:=by
 rcases h with rfl|⟨h1,h2⟩
 ·rfl
 ·rcases k with rfl|⟨k1,k2⟩
  ·rfl
  ·exact Prod.ext (by omega) (by omega)
def Up(o o1:Option Obj):Prop:=∀ c e fz,o=some (.cells c e fz)→∃ c1 fz1,o1=some (.cells c1 e fz1)∧MkLe fz fz1
theorem Up.refl(o:Option Obj):Up o o:=fun c _ fz h=>⟨c,fz,h,.inl rfl⟩
theorem Up.trans{a b c:Option Obj}(h:Up a b)(k:Up b c):Up a c:=fun c0 e fz h0=>by
 obtain⟨c1,f1,h1,l1⟩:=h c0 e fz h0
 obtain⟨c2,f2,h2,l2⟩:=k c1 e f1 h1
 exact⟨c2,f2,h2,l1.trans l2⟩
def ExM(o o':Option Obj):Prop:=∀ c e fz c' e' fz',o=some (.cells c e fz)→o'=some (.cells c' e' fz')→fz=fz'
structure WR(F:Nat→Prop)(P:Program)(ρ:Bij)(w W:World):Prop where
 bi:Bi P ρ
 blk:∀ {r r'},ρ r r'→∃ o o',w.heap[r]?=some o∧W.heap[r']?=some o'∧BR F ρ o o'
 kn:∀ {b m},ρ.kn b m→∃ c e fz,w.heap[b]?=some (.cells c e fz)∧m≤c.size
 gl:P.globals.size≤w.heap.size
 gl':P.globals.size≤W.heap.size
inductive EvOk(σ:Bij)(w:World):Event→Prop
 |cell {r r' o:Nat} {s:Option Nat} {wr:Bool} (h:σ r r') (hf:wr=true→¬ z5t w r):EvOk σ w ⟨.cell ⟨r',o,s⟩,wr,false⟩
 |obj {r r':Nat} {wr:Bool} (h:σ r r') (hf:¬ z5t w r):EvOk σ w ⟨.obj r',wr,false⟩
 |ext {f:FuncId}:EvOk σ w ⟨.mark (.extern f),false,true⟩
 |room:EvOk σ w ⟨.mark .noRoom,false,true⟩
theorem EvOk.mono{σ τ:Bij}{w w1:World}(h:σ.le τ)(hf:∀ r,z5t w r→z5t w1 r){e:Event}(r:EvOk σ w1 e):EvOk τ w e:=by
 cases r with
 |cell hr hn=>exact .cell (h _ _ hr) fun e=>fun x=>hn e (hf _ x)
 |obj hr hn=>exact .obj (h _ _ hr) fun x=>hn (hf _ x)
 |ext=>exact .ext
 |room=>exact .room
structure Gd(ρ σ:Bij)(w w1 W W1:World)(es es':Array Event):Prop where
 le:ρ.le σ
 size:w.heap.size≤w1.heap.size
 size':W.heap.size≤W1.heap.size
 os:W1.os=W.os
 output:W1.output=W.output
 tape:W1.tape=W.tape
 fresh:∀ r r',σ r r'→ρ r r'∨(w.heap.size≤r∧W.heap.size≤r')
 other:∀ r',r'<W.heap.size→(∀ r,¬ ρ r r')→W1.heap[r']?=W.heap[r']?
 full:∀ r,z5t w r→z5t w1 r
 ro:∀ r r',ρ r r'→z5t w r→SameC W.heap[r']? W1.heap[r']?
 ev:∀ e∈es',e∈es∨EvOk σ w e
 up:∀ r:Nat,Up w.heap[r]? w1.heap[r]?
 ex:∀ r r':Nat,ρ r r'→ExM w.heap[r]? W.heap[r']?→ExM w1.heap[r]? W1.heap[r']?
theorem Gd.refl(ρ:Bij)(w W:World)(es:Array Event){w1 W1:World}(h:w1.heap=w.heap)(h':W1.heap=W.heap)(h1:W1.os=W.os)(h2:W1.output=W.output)(h3:W1.tape=W.tape):Gd ρ ρ w w1 W W1 es es:=
 ⟨Bij.le_refl _,by rw[h];exact Nat.le_refl _,by rw[h'];exact Nat.le_refl _,h1,h2,h3,fun _ _ h=>.inl h,fun _ _ _=>by rw[h'],fun r ⟨c,e,fz,e1,e2⟩=>⟨c,e,fz,by rw[h];exact e1,e2⟩,fun _ _ _ _=>by rw[h'];exact .inl rfl,fun _ h=>.inl h,fun r=>by rw[h];exact .refl _,fun r r' _ hx=>by rw[h,h'];exact hx⟩
theorem Gd.trans{ρ σ τ:Bij}{w w1 w2 W W1 W2:World}{es es1 es2:Array Event}(h:Gd ρ σ w w1 W W1 es es1)(k:Gd σ τ w1 w2 W1 W2 es1 es2)(hb:∀ r r',ρ r r'→r<w.heap.size∧r'<W.heap.size):Gd ρ τ w w2 W W2 es es2:=by
 refine⟨Bij.le_trans h.le k.le,Nat.le_trans h.size k.size,Nat.le_trans h.size' k.size',k.os.trans h.os,k.output.trans h.output,k.tape.trans h.tape,fun r r' hr=>?_,fun r' hr hn=>?_,fun r hr=>k.full r (h.full r hr),fun r r' hr hf=>(h.ro r r' hr hf).trans (k.ro r r' (h.le _ _ hr) (h.full r hf)),fun e he=>?_,fun r=>(h.up r).trans (k.up r),fun r r' hr hx=>k.ex r r' (h.le _ _ hr) (h.ex r r' hr hx)⟩
 ·rcases k.fresh r r' hr with h1|⟨h1,h2⟩
  ·exact h.fresh r r' h1
  ·exact .inr ⟨Nat.le_trans h.size h1,Nat.le_trans h.size' h2⟩
 ·rw[k.other r' (Nat.lt_of_lt_of_le hr h.size') fun r hs=>?_]
  ·exact h.other r' hr hn
  ·rcases h.fresh r r' hs with h1|⟨_,h2⟩
   ·exact hn r h1
   ·omega
 ·rcases k.ev e he with h1|h1
  ·rcases h.ev e h1 with h2|h2
   ·exact .inl h2
   ·exact .inr (h2.mono k.le fun _ x=>x)
  ·exact .inr (h1.mono (Bij.le_refl _) h.full)
def z5u(τ τ2:Nat→Question→Nat)(a b:Nat):Prop:=∀ x,a≤x→x<b→τ2 x=τ x
theorem WR.dom{F:Nat→Prop}{P:Program}{ρ:Bij}{w W:World}(h:WR F P ρ w W):∀ r r',ρ r r'→r<w.heap.size∧r'<W.heap.size:=fun r r' hr=>by
 obtain⟨o,o',h1,h2,_⟩:=h.blk hr
 exact⟨(Array.getElem?_eq_some_iff.1 h1).1,(Array.getElem?_eq_some_iff.1 h2).1⟩
section
variable {F:Nat→Prop}{P:Program}{α:Type}
def RunG(F:Nat→Prop)(P:Program)(R:Bij→α→α→Prop)(ρ:Bij)(A A':Sem α)(w W:World):Prop:=
 ∃ (τ:Nat→Question→Nat) (D:Nat),w.drawn≤D ∧
  ((∃ a w1,w1.drawn=D∧(∀ τ2,z5u τ τ2 w.drawn D→A.run P {w with tape:=τ2} = .ok a {w1 with tape:=τ2}) ∧
   ∀ es,∃ a' W1 es' σ,A'.runT P W es=(.ok a' W1,es')∧R σ a a'∧WR F P σ w1 W1∧Gd ρ σ w w1 W W1 es es') ∨
  (∀ τ2,z5u τ τ2 w.drawn D→∃ h w2,Dead h∧A.run P {w with tape:=τ2} = .halt h w2))
theorem RunG.dead{R:Bij→α→α→Prop}{ρ:Bij}{A A':Sem α}{w W:World}(h:Halt)(hd:Dead h)(hr:∀ τ2,∃ w2,A.run P {w with tape:=τ2} = .halt h w2):RunG F P R ρ A A' w W:=
 ⟨w.tape,w.drawn,Nat.le_refl _,.inr fun τ2 _=>let ⟨w2,e⟩:=hr τ2;⟨h,w2,hd,e⟩⟩
theorem RunG.step{R:Bij→α→α→Prop}{ρ σ:Bij}{A A' K K':Sem α}{w W w' W':World}(f:Array Event→Array Event)
  (h1:∀ τ2,A.run P {w with tape:=τ2} = K.run P {w' with tape:=τ2})(hd:w'.drawn=w.drawn)(h2:∀ es,A'.runT P W es=K'.runT P W' (f es))
  (hG:∀ es,Gd ρ σ w w' W W' es (f es))(hb:∀ r r',ρ r r'→r<w.heap.size∧r'<W.heap.size)(h:RunG F P R σ K K' w' W'):RunG F P R ρ A A' w W:=by
 obtain⟨τ,D,hD,h⟩:=h
 have hA:∀ {τ2},z5u τ τ2 w.drawn D→z5u τ τ2 w'.drawn D:=fun ha=>by rw[hd];exact ha
 refine⟨τ,D,hd▸hD,?_⟩
 rcases h with⟨a,w1,e1,e2,e3⟩|h
 ·refine .inl ⟨a,w1,e1,fun τ2 ha=>(h1 τ2).trans (e2 τ2 (hA ha)),fun es=>?_⟩
  obtain⟨a',W1,es',τ',x1,x2,x3,x4⟩:=e3 (f es)
  exact⟨a',W1,es',τ',(h2 es).trans x1,x2,x3,(hG es).trans x4 hb⟩
 ·exact .inr fun τ2 ha=>by rw[h1 τ2];exact h τ2 (hA ha)
theorem WR.tape{ρ:Bij}{w W:World}(h:WR F P ρ w W){w' W':World}(e:w'.heap=w.heap)(e':W'.heap=W.heap):WR F P ρ w' W':=
 ⟨h.bi,fun hr=>by rw[e,e'];exact h.blk hr,fun hk=>by rw[e];exact h.kn hk,by rw[e];exact h.gl,by rw[e'];exact h.gl'⟩
theorem zav{w:World}{b:Nat}{c:Array Value}{e:TypeId}{fz:Nat×Nat}(h:w.heap[b]?=some (.cells c e fz))(o:Nat)(s:Option Nat):w.frozen? ⟨b,o,s⟩=(fz.1≤o&&o<fz.2):=by
 simp[World.frozen?,h]
theorem zb9{w:World}{b:Nat}{c:Array Value}{e:TypeId}{fz:Nat×Nat}(h:w.heap[b]?=some (.cells c e fz))(o:Nat)(s:Option Nat):w.cell? ⟨b,o,s⟩=if s.isSome then none else c[o]? := by
 simp[World.cell?,h]
theorem store_run{α:Type}{m:Mode}(q:Program)(w:World)(a:Addr){v:Value}(k:Sem α)(h1:∀ x,v≠.agg x)(h2:∀ x,v≠.tuple x):(Sem.store m a v k).run q w=match w.cell? a with
  |some _=>if w.frozen? a then .halt (.unsupported (.unsafePointer "a write to bytes that a string shares")) w else k.run q (w.setCell a v)
  |none=>match w.farStore q a v (m == .atomic) with
   |.ok (w,_)=>k.run q w
   |.error h=>.halt h w:=by
 cases v<;>first|rfl|exact absurd rfl (h1 _)|exact absurd rfl (h2 _)
theorem store_runT{α:Type}{m:Mode}(q:Program)(w:World)(es:Array Event)(a:Addr){v:Value}(k:Sem α)(h1:∀ x,v≠.agg x)(h2:∀ x,v≠.tuple x):(Sem.store m a v k).runT q w es=match w.cell? a with
  |some _=>if w.frozen? a then(.halt (.unsupported (.unsafePointer "a write to bytes that a string shares")) w,es) else k.runT q (w.setCell a v) (es.push ⟨.cell a,true,m == .atomic⟩)
  |none=>match w.farStore q a v (m == .atomic) with
   |.ok (w,touched)=>k.runT q w (es++touched.toArray.map (⟨.cell ·,true,m == .atomic⟩))
   |.error h=>(.halt h w,es):=by
 cases v<;>first|rfl|exact absurd rfl (h1 _)|exact absurd rfl (h2 _)
theorem zd0{xs:Array Obj}{i:Nat}{f:Obj→Obj}{o:Obj}(h:xs[i]?=some o):xs.modify i f=xs.setIfInBounds i (f o):=by
 apply Array.ext_getElem?
 intro j
 rw[Array.getElem?_modify,Array.getElem?_setIfInBounds]
 by_cases hj:i=j
 ·subst hj
  have hl:=(Array.getElem?_eq_some_iff.1 h).1
  rw[h];simp[hl]
 ·simp[hj]
theorem set_heap{w:World}{b o:Nat}{s:Option Nat}{v:Value}{c:Array Value}{e:TypeId}{fz:Nat×Nat}(h:w.heap[b]?=some (.cells c e fz))(hs:¬ s.isSome=true) :
  (w.setCell ⟨b,o,s⟩ v).heap=w.heap.setIfInBounds b (.cells (c.setIfInBounds o v) e fz):=by
 unfold World.setCell
 simp only
 rw[zd0 h]
 simp[hs]
theorem zdg{w:World}{b o n:Nat}{s:Option Nat}{c:Array Value}{e:TypeId}{fz:Nat×Nat}(h:w.heap[b]?=some (.cells c e fz))(hn:n≠0) :
  (w.freeze ⟨b,o,s⟩ n).heap=w.heap.setIfInBounds b (.cells c e (if fz.1==fz.2 then(o,o+n) else(min fz.1 o,max fz.2 (o+n)))):=by
 unfold World.freeze
 rw[if_neg hn]
 simp only
 rw[zd0 h]
theorem zbw{w:World}{b o n:Nat}{s:Option Nat}{ob:Obj}(h:w.heap[b]?=some ob)(hb:∀ c e fz,ob≠.cells c e fz):w.freeze ⟨b,o,s⟩ n=w:=by
 unfold World.freeze
 split
 ·rfl
 ·have:w.heap.modify b (fun|.cells c elem (lo,hi)=>.cells c elem (if lo==hi then(o,o+n) else(min lo o,max hi (o+n)))|o=>o)=w.heap:=by
   rw[zd0 h]
   apply Array.ext_getElem?
   intro j
   rw[Array.getElem?_setIfInBounds]
   by_cases hj:b=j
   ·subst hj
    have hl:=(Array.getElem?_eq_some_iff.1 h).1
    rw[if_pos rfl,if_pos hl,h]
    cases ob<;>first|rfl|exact absurd rfl (hb _ _ _)
   ·rw[if_neg hj]
  show World.mk (w.heap.modify b (fun|.cells c elem (lo,hi)=>.cells c elem (if lo==hi then(o,o+n) else(min lo o,max hi (o+n)))|o=>o)) w.tape w.drawn w.os w.output=w
  exact congrArg (fun h=>World.mk h w.tape w.drawn w.os w.output) this
theorem WR.put{ρ:Bij}{w W:World}(h:WR F P ρ w W){b c:Nat}(hr:ρ b c){o o':Obj}(ho:BR F ρ o o')(hz:∀ c e fz,w.heap[b]?=some (.cells c e fz)→∃ c' e' fz',o=.cells c' e' fz'∧c'.size=c.size){w' W':World}(e:w'.heap=w.heap.setIfInBounds b o)(e':W'.heap=W.heap.setIfInBounds c o'):WR F P ρ w' W':=by
 have hd:=h.dom _ _ hr
 refine⟨h.bi,fun {r r'} hr'=>?_,fun {r m} hk=>?_,by rw[e];simpa using h.gl,by rw[e'];simpa using h.gl'⟩
 rotate_left
 ·obtain⟨c1,e1,f1,x1,x2⟩:=h.kn hk
  rw[e,Array.getElem?_setIfInBounds]
  by_cases hb:b=r
  ·subst hb
   obtain⟨c2,e2,f2,y1,y2⟩:=hz _ _ _ x1
   exact⟨c2,e2,f2,by simp[hd.1,y1],by omega⟩
  ·rw[if_neg hb];exact⟨c1,e1,f1,x1,x2⟩
 rw[e,e',Array.getElem?_setIfInBounds,Array.getElem?_setIfInBounds]
 by_cases hb:b=r
 ·subst hb
  have:c=r':=h.bi.fn hr hr'
  subst this
  exact⟨o,o',by simp[hd.1],by simp[hd.2],ho⟩
 ·have:c≠r':=fun hc=>hb (h.bi.inj (hc▸hr) hr')
  rw[if_neg hb,if_neg this];exact h.blk hr'
theorem Gd.put{ρ:Bij}{w W w' W':World}(h:WR F P ρ w W){b c:Nat}(hr:ρ b c){o o':Obj}(e:w'.heap=w.heap.setIfInBounds b o)(e':W'.heap=W.heap.setIfInBounds c o')
  (h1:W'.os=W.os)(h2:W'.output=W.output)(h3:W'.tape=W.tape)(hf:z5t w b→z5t w' b∧SameC W.heap[c]? (some o'))(hu:Up w.heap[b]? (some o))(hx:ExM w.heap[b]? W.heap[c]?→ExM (some o) (some o'))(es:Array Event){es':Array Event}(hev:∀ e∈es',e∈es∨EvOk ρ w e):Gd ρ ρ w w' W W' es es':=by
 have hd:=h.dom _ _ hr
 refine⟨Bij.le_refl _,by rw[e];simp,by rw[e'];simp,h1,h2,h3,fun _ _ h=>.inl h,fun r' _ hn=>?_,fun r hf'=>?_,fun r r' hr' hf'=>?_,hev,fun r=>?_,fun r r' hr' hx'=>?_⟩
 ·rw[e',Array.getElem?_setIfInBounds,if_neg (fun hc=>hn b (by rw[← hc];exact hr))]
 ·by_cases hb:b=r
  ·subst hb;exact(hf hf').1
  ·obtain⟨c1,e1,f1,x1,x2⟩:=hf'
   exact⟨c1,e1,f1,by rw[e,Array.getElem?_setIfInBounds,if_neg hb];exact x1,x2⟩
 ·rw[e',Array.getElem?_setIfInBounds]
  by_cases hc:c=r'
  ·subst hc
   obtain rfl:=h.bi.inj hr hr'
   rw[if_pos rfl,if_pos hd.2];exact(hf hf').2
  ·rw[if_neg hc];exact .inl rfl
 ·rw[e,Array.getElem?_setIfInBounds]
  by_cases hb:b=r
  ·subst hb;rw[if_pos rfl,if_pos hd.1];exact hu
  ·rw[if_neg hb];exact .refl _
 ·rw[e,e',Array.getElem?_setIfInBounds,Array.getElem?_setIfInBounds]
  by_cases hb:b=r
  ·subst hb
   obtain rfl:=h.bi.fn hr hr'
   rw[if_pos rfl,if_pos hd.1,if_pos rfl,if_pos hd.2];exact hx hx'
  ·have:c≠r':=fun hc=>hb (h.bi.inj (hc▸hr) hr')
   rw[if_neg hb,if_neg this];exact hx'
theorem SR.run{R:Bij→α→α→Prop}{g:Bool}{ρ:Bij}{A A':Sem α}(h:SR F P R g ρ A A'):∀ {w W:World},WR F P ρ w W→RunG F P R ρ A A' w W:=by
 induction h with
 |@pure g ρ a a' hr=>
  intro w W hw
  exact⟨w.tape,w.drawn,Nat.le_refl _,.inl ⟨a,w,rfl,fun _ _=>rfl,fun es=>⟨a',W,es,ρ,rfl,hr,hw,Gd.refl ρ w W es rfl rfl rfl rfl rfl⟩⟩⟩
 |@load g ρ b c o s k k' hr _ ih=>
  intro w W hw
  obtain⟨ob,ob',e1,e2,hb⟩:=hw.blk hr
  have none_:(∀ τ2,({w with tape:=τ2}:World).cell? ⟨b,o,s⟩=none)→(∀ at_ u,ob≠.view at_ u)→(∀ x y,ob≠.pending x y)→RunG F P R ρ (.load .plain ⟨b,o,s⟩ k) (.load .plain ⟨c,o,s⟩ k') w W:=by
   intro hn hv hp
   refine RunG.dead (.stuck "load: no such cell") trivial fun τ2=>⟨{w with tape:=τ2},?_⟩
   simp only[Sem.run,hn τ2]
   cases ob<;>simp_all [World.farLoad,World.noCell]
  cases hb with
  |@cells c1 c1' e fz fz' ha hf=>
   have hc1:∀ τ2,({w with tape:=τ2}:World).cell? ⟨b,o,s⟩=if s.isSome then none else c1[o]? := fun τ2=>zb9 (w:={w with tape:=τ2}) e1 o s
   have hc2:W.cell? ⟨c,o,s⟩=if s.isSome then none else c1'[o]? := zb9 e2 o s
   by_cases hs:s.isSome=true
   ·exact none_ (fun τ2=>by rw[hc1,if_pos hs]) (fun _ _=>by simp) (fun _ _=>by simp)
   ·rcases ha.get? o with⟨x,_⟩|⟨v,v',x,x',hv⟩
    ·exact none_ (fun τ2=>by rw[hc1,if_neg hs,x]) (fun _ _=>by simp) (fun _ _=>by simp)
    ·refine RunG.step (w':=w) (W':=W) (K:=k v) (K':=k' v') (σ:=ρ) (fun es=>es.push ⟨.cell ⟨c,o,s⟩,false,false⟩) (fun τ2=>?_) rfl (fun es=>?_) (fun es=>?_) hw.dom (ih v v' hv hw)
     ·simp only[Sem.run,hc1 τ2,if_neg hs,x]
     ·simp only[Sem.runT,hc2,if_neg hs,x'];rfl
     ·refine⟨Bij.le_refl _,Nat.le_refl _,Nat.le_refl _,rfl,rfl,rfl,fun _ _ h=>.inl h,fun _ _ _=>rfl,fun _ h=>h,fun _ _ _ _=>.inl rfl,fun e he=>?_,fun _=>.refl _,fun _ _ _ hx=>hx⟩
      rcases Array.mem_push.1 he with h|rfl
      ·exact .inl h
      ·exact .inr (.cell hr (fun h=>by cases h))
  |iter s p=>exact none_ (fun τ2=>by simp[World.cell?,e1]) (fun _ _=>by simp) (fun _ _=>by simp)
  |number o s l h=>exact none_ (fun τ2=>by simp[World.cell?,e1]) (fun _ _=>by simp) (fun _ _=>by simp)
 |@loadK ρ b c o s k k' hr _ ih=>
  intro w W hw
  obtain⟨ob,ob',e1,e2,hb⟩:=hw.blk hr
  have none_:(∀ τ2,({w with tape:=τ2}:World).cell? ⟨b,o,s⟩=none)→(∀ at_ u,ob≠.view at_ u)→(∀ x y,ob≠.pending x y)→RunG F P R ρ (.load .plain ⟨b,o,s⟩ k) (.load .plain ⟨c,o,s⟩ k') w W:=by
   intro hn hv hp
   refine RunG.dead (.stuck "load: no such cell") trivial fun τ2=>⟨{w with tape:=τ2},?_⟩
   simp only[Sem.run,hn τ2]
   cases ob<;>simp_all [World.farLoad,World.noCell]
  cases hb with
  |@cells c1 c1' e fz fz' ha hf=>
   have hc1:∀ τ2,({w with tape:=τ2}:World).cell? ⟨b,o,s⟩=if s.isSome then none else c1[o]? := fun τ2=>zb9 (w:={w with tape:=τ2}) e1 o s
   have hc2:W.cell? ⟨c,o,s⟩=if s.isSome then none else c1'[o]? := zb9 e2 o s
   by_cases hs:s.isSome=true
   ·exact none_ (fun τ2=>by rw[hc1,if_pos hs]) (fun _ _=>by simp) (fun _ _=>by simp)
   ·rcases ha.get? o with⟨x,_⟩|⟨v,v',x,x',hv⟩
    ·exact none_ (fun τ2=>by rw[hc1,if_neg hs,x]) (fun _ _=>by simp) (fun _ _=>by simp)
    ·let σ:Bij:=⟨ρ.rel,fun p m=>ρ.kn p m∨(p=b∧m=o+1)⟩
     have hle:ρ.le σ:=fun a b h=>h
     have hle':σ.le ρ:=fun a b h=>h
     have hW:WR F P σ w W:=by
      refine⟨⟨fun h h'=>hw.bi.fn h h',fun h h'=>hw.bi.inj h h',fun h h'=>hw.bi.glob h h'⟩,fun {r r'} h=>(let ⟨x,x',h1,h2,h3⟩:=hw.blk h;⟨x,x',h1,h2,h3.mono hle⟩),fun {r m} h=>?_,hw.gl,hw.gl'⟩
      rcases h with h|⟨rfl,rfl⟩
      ·exact hw.kn h
      ·exact⟨c1,e,fz,e1,(Array.getElem?_eq_some_iff.1 x).1⟩
     refine RunG.step (w':=w) (W':=W) (K:=k v) (K':=k' v') (σ:=σ) (fun es=>es.push ⟨.cell ⟨c,o,s⟩,false,false⟩) (fun τ2=>?_) rfl (fun es=>?_) (fun es=>?_) hw.dom (ih σ v v' hle (fun _ _ h=>.inl h) (.inr ⟨rfl,rfl⟩) (hv.mono hle) hW)
     ·simp only[Sem.run,hc1 τ2,if_neg hs,x]
     ·simp only[Sem.runT,hc2,if_neg hs,x'];rfl
     ·refine⟨hle,Nat.le_refl _,Nat.le_refl _,rfl,rfl,rfl,fun _ _ h=>.inl h,fun _ _ _=>rfl,fun _ h=>h,fun _ _ _ _=>.inl rfl,fun e he=>?_,fun _=>.refl _,fun _ _ _ hx=>hx⟩
      rcases Array.mem_push.1 he with h|rfl
      ·exact .inl h
      ·exact .inr (.cell hr (fun h=>by cases h))
  |iter s p=>exact none_ (fun τ2=>by simp[World.cell?,e1]) (fun _ _=>by simp) (fun _ _=>by simp)
  |number o s l h=>exact none_ (fun τ2=>by simp[World.cell?,e1]) (fun _ _=>by simp) (fun _ _=>by simp)
 |@shapeK ρ r r' k k' hr _ ih=>
  intro w W hw
  obtain⟨o,o',e1,e2,hb⟩:=hw.blk hr
  have hs:W.shape? r'=w.shape? r:=by
   cases hb with
   |cells e ha hf=>simp[World.shape?,e1,e2,ha.size]
   |iter s p=>simp[World.shape?,e1,e2]
   |number o s l h=>simp[World.shape?,e1,e2]
  let σ:Bij:=⟨ρ.rel,fun p m=>ρ.kn p m∨(p=r∧∃ e,w.shape? r=some (e,m))⟩
  have hle:ρ.le σ:=fun a b h=>h
  have hW:WR F P σ w W:=by
   refine⟨⟨fun h h'=>hw.bi.fn h h',fun h h'=>hw.bi.inj h h',fun h h'=>hw.bi.glob h h'⟩,fun {r r'} h=>(let ⟨x,x',h1,h2,h3⟩:=hw.blk h;⟨x,x',h1,h2,h3.mono hle⟩),fun {p m} h=>?_,hw.gl,hw.gl'⟩
   rcases h with h|⟨rfl,e,h⟩
   ·exact hw.kn h
   ·unfold World.shape? at h
    rw[e1] at h
    cases o with
    |cells c e' fz=>simp at h;exact⟨c,e',fz,e1,by omega⟩
    |_=>simp at h
  exact RunG.step (w':=w) (W':=W) (K:=k (w.shape? r)) (K':=k' (w.shape? r)) (σ:=σ) id (fun τ2=>rfl) rfl (fun es=>by show(k' (W.shape? r')).runT P W es=_;rw[hs];rfl)
   (fun es=>⟨hle,Nat.le_refl _,Nat.le_refl _,rfl,rfl,rfl,fun _ _ h=>.inl h,fun _ _ _=>rfl,fun _ h=>h,fun _ _ _ _=>.inl rfl,fun e he=>.inl he,fun _=>.refl _,fun _ _ _ hx=>hx⟩) hw.dom
   (ih σ _ hle (fun e m hx=>.inr ⟨rfl,e,hx⟩) hW)
 |@store g ρ b c o s v v' k k' hr hv _ ih=>
  intro w W hw
  obtain⟨ob,ob',e1,e2,hb⟩:=hw.blk hr
  by_cases h1:∃ x,v=.agg x
  ·obtain⟨x,rfl⟩:=h1
   exact RunG.dead (.stuck "store: not the value of one cell") trivial fun τ2=>⟨{w with tape:=τ2},rfl⟩
  by_cases h2:∃ x,v=.tuple x
  ·obtain⟨x,rfl⟩:=h2
   exact RunG.dead (.stuck "store: not the value of one cell") trivial fun τ2=>⟨{w with tape:=τ2},rfl⟩
  have h1':∀ x,v'≠.agg x:=fun x e=>by subst e;cases hv with|hole h=>exact(h.2.1 x).1 rfl|_=>exact h1 ⟨_,rfl⟩
  have h2':∀ x,v'≠.tuple x:=fun x e=>by subst e;cases hv with|hole h=>exact(h.2.1 x).2 rfl|_=>exact h2 ⟨_,rfl⟩
  have hst:=fun w=>store_run (m:=.plain) P w ⟨b,o,s⟩ k (fun x e=>h1 ⟨x,e⟩) (fun x e=>h2 ⟨x,e⟩)
  have hst':=fun w es=>store_runT (m:=.plain) P w es ⟨c,o,s⟩ k' h1' h2'
  have none_:(∀ τ2,({w with tape:=τ2}:World).cell? ⟨b,o,s⟩=none)→(∀ at_ u,ob≠.view at_ u)→(∀ x y,ob≠.pending x y)→RunG F P R ρ (.store .plain ⟨b,o,s⟩ v k) (.store .plain ⟨c,o,s⟩ v' k') w W:=by
   intro hn hv hp
   refine RunG.dead (.stuck "store: no such cell") trivial fun τ2=>⟨{w with tape:=τ2},?_⟩
   rw[hst,hn τ2]
   cases ob<;>simp_all [World.farStore,World.noCell]
  cases hb with
  |@cells c1 c1' e fz fz' ha hf=>
   have hc1:∀ τ2,({w with tape:=τ2}:World).cell? ⟨b,o,s⟩=if s.isSome then none else c1[o]? := fun τ2=>zb9 (w:={w with tape:=τ2}) e1 o s
   have hc2:W.cell? ⟨c,o,s⟩=if s.isSome then none else c1'[o]? := zb9 e2 o s
   by_cases hs:s.isSome=true
   ·exact none_ (fun τ2=>by rw[hc1,if_pos hs]) (fun _ _=>by simp) (fun _ _=>by simp)
   ·rcases ha.get? o with⟨x,_⟩|⟨u,u',x,x',_⟩
    ·exact none_ (fun τ2=>by rw[hc1,if_neg hs,x]) (fun _ _=>by simp) (fun _ _=>by simp)
    have hol:o<c1.size:=(Array.getElem?_eq_some_iff.1 x).1
    have hfz:∀ τ2,({w with tape:=τ2}:World).frozen? ⟨b,o,s⟩=(fz.1≤o&&o<fz.2):=fun τ2=>zav (w:={w with tape:=τ2}) e1 o s
    have hfz':W.frozen? ⟨c,o,s⟩=(fz'.1≤o&&o<fz'.2):=zav e2 o s
    by_cases hfr:(decide (fz.1≤o)&&decide (o<fz.2))=true
    ·refine RunG.dead (.unsupported (.unsafePointer "a write to bytes that a string shares")) trivial fun τ2=>⟨{w with tape:=τ2},?_⟩
     rw[hst,hc1,if_neg hs,x]
     simp only[hfz τ2,hfr,if_true]
    ·have hnf:¬ z5t w b:=by
      rintro⟨c2,e',f2,x1,x2,x3⟩
      rw[e1] at x1;cases x1
      exact hfr (by simp[x2];omega)
     have heq:fz=fz':=hf.resolve_right fun⟨q,_⟩=>hfr (by have:=q.1;have:=q.2;simp[q.1];omega)
     subst heq
     have hw1:(w.setCell ⟨b,o,s⟩ v).heap=w.heap.setIfInBounds b (.cells (c1.setIfInBounds o v) e fz):=set_heap e1 hs
     have hw2:(W.setCell ⟨c,o,s⟩ v').heap=W.heap.setIfInBounds c (.cells (c1'.setIfInBounds o v') e fz):=set_heap e2 hs
     refine RunG.step (w':=w.setCell ⟨b,o,s⟩ v) (W':=W.setCell ⟨c,o,s⟩ v') (K:=k) (K':=k') (σ:=ρ) (fun es=>es.push ⟨.cell ⟨c,o,s⟩,true,false⟩) (fun τ2=>?_) rfl (fun es=>?_) (fun es=>?_) hw.dom
      (ih (hw.put hr (.cells e (ha.set o hv) (.inl rfl)) (fun c2 e2 f2 x=>by rw[e1] at x;cases x;exact⟨_,_,_,rfl,by simp⟩) hw1 hw2))
     ·rw[hst,hc1,if_neg hs,x]
      simp only[hfz τ2,hfr];rfl
     ·rw[hst',hc2,if_neg hs,x']
      simp only[hfz',hfr];rfl
     ·refine Gd.put hw hr hw1 hw2 rfl rfl rfl (fun h=>absurd h hnf) (fun c0 e0 f0 h0=>by rw[e1] at h0;cases h0;exact⟨_,_,rfl,.inl rfl⟩) (fun _ c0 e0 f0 c0' e0' f0' h0 h0'=>by cases h0;cases h0';rfl) es fun e he=>?_
      rcases Array.mem_push.1 he with h|rfl
      ·exact .inl h
      ·exact .inr (.cell hr (fun _=>hnf))
  |iter s p=>exact none_ (fun τ2=>by simp[World.cell?,e1]) (fun _ _=>by simp) (fun _ _=>by simp)
  |number o s l h=>exact none_ (fun τ2=>by simp[World.cell?,e1]) (fun _ _=>by simp) (fun _ _=>by simp)
 |@new ρ o o' k k' ho _ ih=>
  intro w W hw
  let σ:Bij:=⟨fun a b=>ρ a b∨(a=w.heap.size∧b=W.heap.size),ρ.kn⟩
  have hle:ρ.le σ:=fun a b h=>.inl h
  have hW:WR F P σ {w with heap:=w.heap.push o} {W with heap:=W.heap.push o' } := by
   refine⟨⟨fun {a b c} h h'=>?_,fun {a b c} h h'=>?_,fun {a b} h hg=>?_⟩,fun {r r'} h=>?_,fun {r m} h=>(by
    obtain⟨c1,e1,f1,x1,x2⟩:=hw.kn h
    have:=(Array.getElem?_eq_some_iff.1 x1).1
    exact⟨c1,e1,f1,by rw[Array.getElem?_push,if_neg (by omega)];exact x1,x2⟩),by simp;have:=hw.gl;omega,by simp;have:=hw.gl';omega⟩
   ·rcases h with h|⟨rfl,rfl⟩<;>rcases h' with h'|⟨e1,e2⟩
    ·exact hw.bi.fn h h'
    ·have:=(hw.dom _ _ h).1;omega
    ·have:=(hw.dom _ _ h').1;omega
    ·exact e2.symm
   ·rcases h with h|⟨rfl,rfl⟩<;>rcases h' with h'|⟨e1,e2⟩
    ·exact hw.bi.inj h h'
    ·have:=(hw.dom _ _ h).2;omega
    ·have:=(hw.dom _ _ h').2;omega
    ·exact e1.symm
   ·rcases h with h|⟨rfl,rfl⟩
    ·exact hw.bi.glob h hg
    ·have:=hw.gl;have:=hw.gl';omega
   ·rcases h with h|⟨rfl,rfl⟩
    ·obtain⟨x,x',h1,h2,h3⟩:=hw.blk h
     have:=hw.dom _ _ h
     refine⟨x,x',?_,?_,h3.mono hle⟩
     ·rw[Array.getElem?_push,if_neg (by omega)];exact h1
     ·rw[Array.getElem?_push,if_neg (by omega)];exact h2
    ·exact⟨o,o',by simp,by simp,ho.mono hle⟩
  refine RunG.step (w':={w with heap:=w.heap.push o}) (W':={W with heap:=W.heap.push o' }) (K:=k w.heap.size) (K':=k' W.heap.size) (σ:=σ) id (fun τ2=>rfl) rfl (fun es=>rfl) (fun es=>?_) hw.dom
   (ih σ _ _ hle (.inr ⟨rfl,rfl⟩) hW)
  refine⟨hle,by simp,by simp,rfl,rfl,rfl,fun r r' h=>h.imp id fun⟨e1,e2⟩=>⟨by omega,by omega⟩,fun r' h _=>?_,fun r ⟨c,e,fz,h1,h2⟩=>⟨c,e,fz,?_,h2⟩,fun r r' h _=>?_,fun e he=>.inl he,fun r c e fz h1=>?_,fun r r' h hx=>?_⟩
  ·rw[Array.getElem?_push,if_neg (by omega)]
  ·have:=(Array.getElem?_eq_some_iff.1 h1).1
   rw[Array.getElem?_push,if_neg (by omega)];exact h1
  ·have:=hw.dom _ _ h
   rw[Array.getElem?_push,if_neg (by omega)];exact .inl rfl
  ·have:=(Array.getElem?_eq_some_iff.1 h1).1
   exact⟨c,fz,by rw[Array.getElem?_push,if_neg (by omega)];exact h1,.inl rfl⟩
  ·have:=hw.dom _ _ h
   rw[Array.getElem?_push,if_neg (by omega),Array.getElem?_push,if_neg (by omega)];exact hx
 |@shape g ρ r r' k k' hr _ ih=>
  intro w W hw
  obtain⟨o,o',e1,e2,hb⟩:=hw.blk hr
  have hs:W.shape? r'=w.shape? r:=by
   cases hb with
   |cells e ha hf=>simp[World.shape?,e1,e2,ha.size]
   |iter s p=>simp[World.shape?,e1,e2]
   |number o s l h=>simp[World.shape?,e1,e2]
  exact RunG.step (w':=w) (W':=W) (K:=k (w.shape? r)) (K':=k' (w.shape? r)) (σ:=ρ) id (fun τ2=>rfl) rfl (fun es=>by show(k' (W.shape? r')).runT P W es=_;rw[hs];rfl) (fun es=>Gd.refl ρ w W es rfl rfl rfl rfl rfl) hw.dom (ih _ hw)
 |@freeze g ρ b c o n s k k' hr hbd _ ih=>
  intro w W hw
  obtain⟨ob,ob',e1,e2,hb⟩:=hw.blk hr
  have still:w.freeze ⟨b,o,s⟩ n=w→W.freeze ⟨c,o,s⟩ n=W→RunG F P R ρ (.freeze ⟨b,o,s⟩ n k) (.freeze ⟨c,o,s⟩ n k') w W:=fun h1 h2=>
   RunG.step (w':=w) (W':=W) (K:=k) (K':=k') (σ:=ρ) id (fun τ2=>by
    have:({w with tape:=τ2}:World).freeze ⟨b,o,s⟩ n={w.freeze ⟨b,o,s⟩ n with tape:=τ2} := by unfold World.freeze;split<;>rfl
    simp only[Sem.run,this,h1]) rfl (fun es=>by simp only[Sem.runT,h2];rfl) (fun es=>Gd.refl ρ w W es rfl rfl rfl rfl rfl) hw.dom (ih hw)
  by_cases hn:n=0
  ·exact still (by simp[World.freeze,hn]) (by simp[World.freeze,hn])
  have other:(∀ c e fz,ob≠.cells c e fz)→(∀ c e fz,ob'≠.cells c e fz)→RunG F P R ρ (.freeze ⟨b,o,s⟩ n k) (.freeze ⟨c,o,s⟩ n k') w W:=fun h1 h2=>
   still (zbw e1 h1) (zbw e2 h2)
  cases hb with
  |@cells c1 c1' e fz fz' ha hf=>
   let fr:Nat×Nat→Nat×Nat:=fun fz=>if fz.1==fz.2 then(o,o+n) else(min fz.1 o,max fz.2 (o+n))
   have hw1:(w.freeze ⟨b,o,s⟩ n).heap=w.heap.setIfInBounds b (.cells c1 e (fr fz)):=zdg e1 hn
   have hw2:(W.freeze ⟨c,o,s⟩ n).heap=W.heap.setIfInBounds c (.cells c1' e (fr fz')):=zdg e2 hn
   have hfull:Full c1.size fz→Full c1.size (fr fz):=fun⟨q1,q2⟩=>by
    have:(fz.1==fz.2)=false:=by rw[beq_eq_false_iff_ne];omega
    simp only[fr,this]
    exact⟨by simp[q1],by simp;omega⟩
   have hf2:fr fz=fr fz'∨(Full c1.size (fr fz)∧(fr fz').2≤(fr fz).2):=by
    rcases hf with rfl|⟨q,q3⟩
    ·exact .inl rfl
    ·refine .inr ⟨hfull q,?_⟩
     have:(fz.1==fz.2)=false:=by rw[beq_eq_false_iff_ne];have:=q.1;have:=q.2;omega
     simp only[fr,this]
     split<;>simp<;>omega
   have ef:∀ τ2,({w with tape:=τ2}:World).freeze ⟨b,o,s⟩ n={w.freeze ⟨b,o,s⟩ n with tape:=τ2} := fun τ2=>by unfold World.freeze;split<;>rfl
   have x1:(w.freeze ⟨b,o,s⟩ n).drawn=w.drawn:=by unfold World.freeze;split<;>rfl
   have x2:(W.freeze ⟨c,o,s⟩ n).os=W.os∧(W.freeze ⟨c,o,s⟩ n).output=W.output∧(W.freeze ⟨c,o,s⟩ n).tape=W.tape:=by unfold World.freeze;split<;>exact⟨rfl,rfl,rfl⟩
   refine RunG.step (w':=w.freeze ⟨b,o,s⟩ n) (W':=W.freeze ⟨c,o,s⟩ n) (K:=k) (K':=k') (σ:=ρ) id (fun τ2=>by show k.run P (({w with tape:=τ2}:World).freeze ⟨b,o,s⟩ n)=_;rw[ef τ2]) x1 (fun es=>rfl) (fun es=>?_) hw.dom
    (ih (hw.put hr (.cells e ha hf2) (fun c2 e2 f2 x=>by rw[e1] at x;cases x;exact⟨_,_,_,rfl,rfl⟩) hw1 hw2))
   have hup:Up w.heap[b]? (some (.cells c1 e (fr fz))):=fun c0 e0 f0 h0=>by
    rw[e1] at h0;cases h0
    refine⟨_,_,rfl,.inr ?_⟩
    simp only[fr]
    by_cases h:(fz.1==fz.2)=true
    ·rw[if_pos h]
     exact⟨by simp only;omega,.inl (by simpa using h)⟩
    ·rw[if_neg h]
     exact⟨by simp only;omega,.inr (by simp only;omega)⟩
   refine Gd.put hw hr hw1 hw2 x2.1 x2.2.1 x2.2.2 (fun⟨c2,e',f2,y1,y2⟩=>?_) hup (fun hx c0 e0 f0 c0' e0' f0' h0 h0'=>by cases h0;cases h0';rw[hx _ _ _ _ _ _ e1 e2]) es fun e he=>.inl he
   rw[e1] at y1;cases y1
   have hbd2:=hw.dom _ _ hr
   refine⟨⟨c1,e,fr fz,by rw[hw1];simp[hbd2.1],hfull y2⟩,.inr ⟨c1',e,fz',fr fz',e2,rfl,?_⟩⟩
   obtain⟨m,hm,hb1⟩:=hbd
   obtain⟨c3,e3,f3,z1,z2⟩:=hw.kn hm
   rw[e1] at z1;cases z1
   have:=ha.size
   show(fr fz').2≤max fz'.2 (c1'.size+1)
   simp only[fr]
   split<;>simp only<;>omega
  |iter s p=>exact other (by simp) (by simp)
  |number o s l h=>exact other (by simp) (by simp)
 |@frozen g ρ b c o s k k' hr _ ih=>
  intro w W hw
  obtain⟨ob,ob',e1,e2,hb⟩:=hw.blk hr
  have hfz:W.frozen? ⟨c,o,s⟩=true→w.frozen? ⟨b,o,s⟩=true:=by
   cases hb with
   |@cells c1 c1' e fz fz' ha hf=>
    rw[zav e1,zav e2]
    rcases hf with rfl|⟨q,q3⟩
    ·exact id
    ·have:=q.1;simp;omega
   |iter s p=>simp[World.frozen?,e2]
   |number o s l h=>simp[World.frozen?,e2]
  exact RunG.step (w':=w) (W':=W) (K:=k (w.frozen? ⟨b,o,s⟩)) (K':=k' (W.frozen? ⟨c,o,s⟩)) (σ:=ρ) id (fun τ2=>rfl) rfl (fun es=>rfl) (fun es=>Gd.refl ρ w W es rfl rfl rfl rfl rfl) hw.dom (ih _ _ hfz hw)
 |@getObj g ρ r r' k k' hr _ ih=>
  intro w W hw
  obtain⟨o,o',e1,e2,hb⟩:=hw.blk hr
  have go:(∀ c e fz,o≠.cells c e fz)→(∀ c e fz,o'≠.cells c e fz)→o'.isChan=false→RunG F P R ρ (.getObj r k) (.getObj r' k') w W:=by
   intro h1 h2 h3
   refine RunG.step (w':=w) (W':=W) (K:=k o) (K':=k' o') (σ:=ρ) (fun es=>es.push ⟨.obj r',false,o'.isChan⟩) (fun τ2=>?_) rfl (fun es=>?_) (fun es=>?_) hw.dom (ih o o' hb hw)
   ·simp only[Sem.run]
    show(match w.heap[r]? with|some (.cells ..)=>_|some o=>_|none=>_)=_
    rw[e1];cases o<;>first|rfl|exact absurd rfl (h1 _ _ _)
   ·simp only[Sem.runT];rw[e2];cases o'<;>first|rfl|exact absurd rfl (h2 _ _ _)
   ·refine⟨Bij.le_refl _,Nat.le_refl _,Nat.le_refl _,rfl,rfl,rfl,fun _ _ h=>.inl h,fun _ _ _=>rfl,fun _ h=>h,fun _ _ _ _=>.inl rfl,fun e he=>?_,fun _=>.refl _,fun _ _ _ hx=>hx⟩
    rcases Array.mem_push.1 he with h|rfl
    ·exact .inl h
    ·rw[h3];exact .inr (.obj hr fun⟨c,e,fz,x,_⟩=>by rw[e1] at x;cases x;exact h1 _ _ _ rfl)
  cases hb with
  |cells e ha hf=>
   refine RunG.dead (.stuck "getObj: a row of cells") trivial fun τ2=>⟨{w with tape:=τ2},?_⟩
   simp only[Sem.run]
   show(match w.heap[r]? with|some (.cells ..)=>_|some o=>_|none=>_)=_
   rw[e1]
  |iter s p=>exact go (by simp) (by simp) rfl
  |number o s l h=>exact go (by simp) (by simp) rfl
 |@setObj g ρ r r' o o' k k' hr ho hn _ ih=>
  intro w W hw
  obtain⟨o1,o1',e1,e2,hb⟩:=hw.blk hr
  have go:(∀ c e fz,o1≠.cells c e fz)→(∀ c e fz,o1'≠.cells c e fz)→RunG F P R ρ (.setObj r o k) (.setObj r' o' k') w W:=by
   intro h1 h2
   have hch:o'.isChan=false:=by cases ho<;>rfl
   have hnf:¬ z5t w r:=fun⟨c,e,fz,x,_⟩=>by rw[e1] at x;cases x;exact h1 _ _ _ rfl
   refine RunG.step (w':={w with heap:=w.heap.setIfInBounds r o}) (W':={W with heap:=W.heap.setIfInBounds r' o' }) (K:=k) (K':=k') (σ:=ρ) (fun es=>es.push ⟨.obj r',true,o'.isChan⟩) (fun τ2=>?_) rfl (fun es=>?_) (fun es=>?_) hw.dom
    (ih (hw.put hr ho (fun c2 e2 f2 x=>by rw[e1] at x;cases x;exact absurd rfl (h1 _ _ _)) rfl rfl))
   ·simp only[Sem.run]
    show(match w.heap[r]? with|some (.cells ..)=>_|some o=>_|none=>_)=_
    rw[e1];cases o1<;>first|rfl|exact absurd rfl (h1 _ _ _)
   ·simp only[Sem.runT];rw[e2];cases o1'<;>first|rfl|exact absurd rfl (h2 _ _ _)
   ·refine Gd.put (w':={w with heap:=w.heap.setIfInBounds r o}) (W':={W with heap:=W.heap.setIfInBounds r' o' }) (o:=o) (o':=o') hw hr rfl rfl rfl rfl rfl (fun h=>absurd h hnf) (fun c0 e0 f0 h0=>by rw[e1] at h0;cases h0;exact absurd rfl (h1 _ _ _)) (fun _ c0 e0 f0 c0' e0' f0' h0 h0'=>by cases h0;exact absurd rfl (hn _ _ _)) es fun e he=>?_
    rcases Array.mem_push.1 he with h|rfl
    ·exact .inl h
    ·rw[hch];exact .inr (.obj hr hnf)
  cases hb with
  |cells e ha hf=>
   refine RunG.dead (.stuck "setObj: a row of cells") trivial fun τ2=>⟨{w with tape:=τ2},?_⟩
   simp only[Sem.run]
   show(match w.heap[r]? with|some (.cells ..)=>_|some o=>_|none=>_)=_
   rw[e1]
  |iter s p=>exact go (by simp) (by simp)
  |number o s l h=>exact go (by simp) (by simp)
 |@choose g ρ q k k' _ ih=>
  intro w W hw
  by_cases hq:q.forced=true
  ·exact RunG.step (w':=w) (W':=W) (K:=k 0) (K':=k' 0) (σ:=ρ) id (fun τ2=>by simp only[Sem.run,hq,if_true]) rfl (fun es=>by simp only[Sem.runT,hq,if_true];rfl) (fun es=>Gd.refl ρ w W es rfl rfl rfl rfl rfl) hw.dom (ih 0 hw)
  ·obtain⟨τ,D,hD,h⟩:=ih (q.cut (W.tape W.drawn q)) (hw.tape (w':={w with drawn:=w.drawn+1}) (W':={W with drawn:=W.drawn+1}) rfl rfl)
   simp only at hD
   refine⟨fun x=>if x=w.drawn then fun _=>W.tape W.drawn q else τ x,D,by omega,?_⟩
   have ag:∀ τ2,z5u (fun x=>if x=w.drawn then fun _=>W.tape W.drawn q else τ x) τ2 w.drawn D→z5u τ τ2 (w.drawn+1) D∧τ2 w.drawn q=W.tape W.drawn q:=fun τ2 ha=>by
    refine⟨fun x h1 h2=>?_,?_⟩
    ·have:=ha x (by omega) h2
     simpa[show x≠w.drawn by omega] using this
    ·have:=ha w.drawn (Nat.le_refl _) (by omega)
     rw[this];simp
   have er:∀ τ2,τ2 w.drawn q=W.tape W.drawn q→(Sem.choose q k).run P {w with tape:=τ2} = (k (q.cut (W.tape W.drawn q))).run P { {w with drawn:=w.drawn+1} with tape:=τ2} := fun τ2 h2=>by
    simp only[Sem.run,hq];rw[h2];rfl
   rcases h with⟨a,w1,e1,e2,e3⟩|h
   ·refine .inl ⟨a,w1,e1,fun τ2 ha=>by rw[er τ2 (ag τ2 ha).2];exact e2 τ2 (ag τ2 ha).1,fun es=>?_⟩
    obtain⟨a',W1,es',σ,x1,x2,x3,x4⟩:=e3 es
    exact⟨a',W1,es',σ,by simp only[Sem.runT,hq];exact x1,x2,x3,Gd.trans (w1:={w with drawn:=w.drawn+1}) (W1:={W with drawn:=W.drawn+1}) (es1:=es) (Gd.refl ρ w W es rfl rfl rfl rfl rfl) x4 hw.dom⟩
   ·exact .inr fun τ2 ha=>by rw[er τ2 (ag τ2 ha).2];exact h τ2 (ag τ2 ha).1
 |@chooseL g ρ q k B hq t _ ih=>
  intro w W hw
  obtain⟨τ,D,hD,h⟩:=ih (hw.tape (w':={w with drawn:=w.drawn+1}) (W':=W) rfl rfl)
  simp only at hD
  refine⟨fun x=>if x=w.drawn then fun _=>t else τ x,D,by omega,?_⟩
  have ag:∀ τ2,z5u (fun x=>if x=w.drawn then fun _=>t else τ x) τ2 w.drawn D→z5u τ τ2 (w.drawn+1) D∧τ2 w.drawn q=t:=fun τ2 ha=>by
   refine⟨fun x h1 h2=>?_,?_⟩
   ·have:=ha x (by omega) h2
    simpa[show x≠w.drawn by omega] using this
   ·have:=ha w.drawn (Nat.le_refl _) (by omega)
    rw[this];simp
  have er:∀ τ2,τ2 w.drawn q=t→(Sem.choose q k).run P {w with tape:=τ2} = (k (q.cut t)).run P { {w with drawn:=w.drawn+1} with tape:=τ2} := fun τ2 h2=>by
   simp only[Sem.run,hq];rw[h2];rfl
  rcases h with⟨a,w1,e1,e2,e3⟩|h
  ·refine .inl ⟨a,w1,e1,fun τ2 ha=>by rw[er τ2 (ag τ2 ha).2];exact e2 τ2 (ag τ2 ha).1,fun es=>?_⟩
   obtain⟨a',W1,es',σ,x1,x2,x3,x4⟩:=e3 es
   exact⟨a',W1,es',σ,x1,x2,x3,Gd.trans (w1:={w with drawn:=w.drawn+1}) (W1:=W) (es1:=es) (Gd.refl ρ w W es rfl rfl rfl rfl rfl) x4 hw.dom⟩
  ·exact .inr fun τ2 ha=>by rw[er τ2 (ag τ2 ha).2];exact h τ2 (ag τ2 ha).1
 |@shapeR g ρ r A k' _ ih=>
  intro w W hw
  exact RunG.step (w':=w) (W':=W) (K:=A) (K':=k' (W.shape? r)) (σ:=ρ) id (fun τ2=>rfl) rfl (fun es=>rfl) (fun es=>Gd.refl ρ w W es rfl rfl rfl rfl rfl) hw.dom (ih _ hw)
 |@frozenR g ρ a A k' _ ih=>
  intro w W hw
  exact RunG.step (w':=w) (W':=W) (K:=A) (K':=k' (W.frozen? a)) (σ:=ρ) id (fun τ2=>rfl) rfl (fun es=>rfl) (fun es=>Gd.refl ρ w W es rfl rfl rfl rfl rfl) hw.dom (ih _ hw)
 |@shapeL g ρ r k B _ ih=>
  intro w W hw
  exact RunG.step (w':=w) (W':=W) (K:=k (w.shape? r)) (K':=B) (σ:=ρ) id (fun τ2=>rfl) rfl (fun es=>rfl) (fun es=>Gd.refl ρ w W es rfl rfl rfl rfl rfl) hw.dom (ih _ hw)
 |@frozenL g ρ a k B _ ih=>
  intro w W hw
  exact RunG.step (w':=w) (W':=W) (K:=k (w.frozen? a)) (K':=B) (σ:=ρ) id (fun τ2=>rfl) rfl (fun es=>rfl) (fun es=>Gd.refl ρ w W es rfl rfl rfl rfl rfl) hw.dom (ih _ hw)
 |@markL g ρ m k B _ ih=>
  intro w W hw
  exact RunG.step (w':=w) (W':=W) (K:=k) (K':=B) (σ:=ρ) id (fun τ2=>rfl) rfl (fun es=>rfl) (fun es=>Gd.refl ρ w W es rfl rfl rfl rfl rfl) hw.dom (ih hw)
 |@program g ρ k k' _ ih=>
  intro w W hw
  exact RunG.step (w':=w) (W':=W) (K:=k P) (K':=k' P) (σ:=ρ) id (fun τ2=>rfl) rfl (fun es=>rfl) (fun es=>Gd.refl ρ w W es rfl rfl rfl rfl rfl) hw.dom (ih hw)
 |@mark g ρ m k k' hm _ ih=>
  intro w W hw
  refine RunG.step (w':=w) (W':=W) (K:=k) (K':=k') (σ:=ρ) (fun es=>es.push ⟨.mark m,false,true⟩) (fun τ2=>rfl) rfl (fun es=>rfl) (fun es=>?_) hw.dom (ih hw)
  refine⟨Bij.le_refl _,Nat.le_refl _,Nat.le_refl _,rfl,rfl,rfl,fun _ _ h=>.inl h,fun _ _ _=>rfl,fun _ h=>h,fun _ _ _ _=>.inl rfl,fun e he=>?_,fun _=>.refl _,fun _ _ _ hx=>hx⟩
  rcases Array.mem_push.1 he with h|rfl
  ·exact .inl h
  ·rcases hm with rfl|⟨f,rfl⟩
   ·exact .inr .room
   ·exact .inr .ext
 |dead hd=>
  intro w W hw
  exact⟨w.tape,w.drawn,Nat.le_refl _,.inr fun τ2 _=>hd _⟩
 |halt hd=>
  intro w W hw
  exact RunG.dead _ hd fun τ2=>⟨{w with tape:=τ2},rfl⟩
end
abbrev eqR{α:Type}:Bij→α→α→Prop:=fun _ a a'=>a=a'
abbrev vR(F:Nat→Prop):Bij→Value→Value→Prop:=fun σ v v'=>VR F σ v v'
abbrev aR(F:Nat→Prop):Bij→Array Value→Array Value→Prop:=fun σ v v'=>AR F σ v v'
inductive DR(ρ:Bij):Addr→Addr→Prop
 |mk {b c:Nat} (o:Nat) (s:Option Nat) (h:ρ b c):DR ρ ⟨b,o,s⟩ ⟨c,o,s⟩
abbrev dR:Bij→Addr→Addr→Prop:=fun σ a a'=>DR σ a a'
theorem DR.add{ρ:Bij}{a a':Addr}(h:DR ρ a a')(n:Nat):DR ρ (a.add n) (a'.add n):=by
 cases h with
 |mk o s h=>unfold Addr.add;split<;>exact .mk _ _ h
theorem DR.off{ρ:Bij}{a a':Addr}(h:DR ρ a a'):a.off=a'.off:=by cases h;rfl
theorem DR.spot{ρ:Bij}{a a':Addr}(h:DR ρ a a'):a.spot=a'.spot:=by cases h;rfl
theorem DR.blk{ρ:Bij}{a a':Addr}(h:DR ρ a a'):ρ a.block a'.block:=by cases h;assumption
theorem DR.at_{ρ:Bij}{a a':Addr}(h:DR ρ a a')(o:Nat)(s:Option Nat):DR ρ ⟨a.block,o,s⟩ ⟨a'.block,o,s⟩:=.mk o s h.blk
theorem DR.ptr{F:Nat→Prop}{ρ:Bij}{a a':Addr}(h:DR ρ a a'):VR F ρ (.pointer (some a)) (.pointer (some a')):=by cases h with|mk o s h=>exact .ptr o s h
theorem DR.sl{F:Nat→Prop}{ρ:Bij}{a a':Addr}(h:DR ρ a a')(l k:Nat):VR F ρ (.slice (some a) l k) (.slice (some a') l k):=by cases h with|mk o s h=>exact .sl o s l k h
theorem DR.mono{ρ σ:Bij}(l:ρ.le σ){a a':Addr}(h:DR ρ a a'):DR σ a a':=by cases h with|mk o s h=>exact .mk o s (l _ _ h)
structure Zs(F:Nat→Prop)(P:Program):Prop where
 zero:∀ t i v,P.info? t=some i→i.zero=some v→∀ ρ,VR F ρ v v
section
variable {F:Nat→Prop}{P:Program}{g:Bool}{ρ:Bij}{α β:Type}
theorem zb{R:Bij→α→α→Prop}{a a':α}(h:R ρ a a'):SR F P R g ρ (Pure.pure a) (Pure.pure a'):=.pure h
theorem za{R:Bij→α→α→Prop}{s:String}{B:Sem α}:SR F P R g ρ (stuck s) B:=.halt trivial
theorem zm{R:Bij→α→α→Prop}{u:Unsupported}(h:∀ g,u≠.initOrder g){B:Sem α}:SR F P R g ρ (unsupported u) B:=.halt (by cases u<;>first|trivial|exact absurd rfl (h _))
theorem sr_panic{R:Bij→α→α→Prop}{v:Value}{B:Sem α}:SR F P R g ρ (goPanic v) B:=.halt trivial
theorem z1i{R:Bij→β→β→Prop}{f f':Program→Sem β}(h:SR F P R g ρ (f P) (f' P)):SR F P R g ρ (program >>= f) (program >>= f'):=.program h
theorem z1t{R:Bij→β→β→Prop}{A:Sem α}{f f':α→Sem β}(r:SR F P eqR false ρ A A)(h:∀ a,SR F P R g ρ (f a) (f' a)):SR F P R g ρ (A >>= f) (A >>= f'):=
 SR.bind r fun a a' e=>by cases e;exact h a
theorem z25{R:Bij→β→β→Prop}{A A':Sem α}{f f':α→Sem β}(r:SR F P eqR false ρ A A')(h:∀ a,SR F P R g ρ (f a) (f' a)):SR F P R g ρ (A >>= f) (A' >>= f'):=
 SR.bind r fun a a' e=>by cases e;exact h a
theorem z2m(t:TypeId):SR F P eqR g ρ (typeInfo t) (typeInfo t):=by
 unfold typeInfo
 refine z1i ?_
 split
 ·exact zb rfl
 ·exact za
theorem zt(t:TypeId):SR F P eqR g ρ (underlying t) (underlying t):=by
 unfold underlying
 refine z1i ?_
 split
 ·exact zb rfl
 ·exact za
theorem z2c(t:TypeId):SR F P eqR g ρ (sizeOf t) (sizeOf t):=by
 unfold sizeOf
 exact z1t (z2m t) fun a=>zb rfl
theorem sr_isAgg(t:TypeId):SR F P eqR g ρ (isAgg t) (isAgg t):=by
 unfold isAgg
 refine z1t (zt t) fun a=>?_
 split<;>exact zb rfl
theorem zbq(t:TypeId):SR F P (fun _ a a'=>a=a'∧P.info? t=some a) g ρ (typeInfo t) (typeInfo t):=by
 unfold typeInfo
 refine z1i ?_
 split
 ·rename_i h;exact zb ⟨rfl,h⟩
 ·exact za
theorem z3q(hz:Zs F P)(t:TypeId):SR F P (vR F) g ρ (zeroValue t) (zeroValue t):=by
 unfold zeroValue
 refine SR.bind (zbq t) fun i i' ⟨e,h⟩=>?_
 subst e
 split
 ·rename_i h';exact zb (hz.zero t i _ h h' ρ)
 ·exact zm (by simp)
theorem zf6{a a':Addr}(h:DR ρ a a'):SR F P (vR F) g ρ (load a) (load a'):=by
 cases h with|mk o s h=>exact .load h fun v v' hv=>.pure hv
theorem sr_store{a a':Addr}(h:DR ρ a a'){v v':Value}(hv:VR F ρ v v'):SR F P eqR g ρ (store a v) (store a' v'):=by
 cases h with|mk o s h=>exact .store h hv (.pure rfl)
theorem z6n{r r':Nat}(h:ρ r r'):SR F P eqR g ρ (shape r) (shape r'):=.shape h fun x=>.pure rfl
theorem sr_freeze{a a':Addr}(h:DR ρ a a')(n:Nat)(hb:∃ m,ρ.kn a.block m∧a.off+n≤m+1):SR F P eqR g ρ (freeze a n) (freeze a' n):=by
 cases h with|mk o s h=>exact .freeze h hb (.pure rfl)
theorem zat{a a':Addr}(h:DR ρ a a'):SR F P (fun _ x x'=>x'=true→x=true) g ρ (frozen a) (frozen a'):=by
 cases h with|mk o s h=>exact .frozen h fun x x' hx=>.pure hx
theorem zcw{r r':Nat}(h:ρ r r'):SR F P (fun σ o o'=>BR F σ o o') g ρ (getObj r) (getObj r'):=.getObj h fun o o' ho=>.pure ho
theorem sr_setObj{r r':Nat}(h:ρ r r'){o o':Obj}(ho:BR F ρ o o')(hn:∀ c e fz,o≠.cells c e fz):SR F P eqR g ρ (setObj r o) (setObj r' o'):=.setObj h ho hn (.pure rfl)
theorem z66(q:Question):SR F P eqR g ρ (choose q) (choose q):=.choose fun n=>.pure rfl
theorem z7a(e:TypeId){c c':Array Value}(h:AR F ρ c c'):SR F P dR true ρ (newRow e c) (newRow e c'):=by
 refine SR.new (.cells e h (.inl rfl)) fun σ r r' _ hr=>?_
 exact .pure (DR.mk 0 none hr)
theorem zbd(n:Nat):SR F P eqR g ρ (askRoom n) (askRoom n):=by
 unfold askRoom
 split
 ·exact .mark (.inl rfl) (.pure rfl)
 ·exact zb rfl
theorem z91{a a':Addr}(h:DR ρ a a'):∀ (n i:Nat) {acc acc':Array Value},AR F ρ acc acc'→SR F P (aR F) g ρ (loadCellsFrom a i n acc) (loadCellsFrom a' i n acc')
 |0,_,_,_,ha=>zb ha
 |n+1,i,_,_,ha=>SR.bind (zf6 (h.add i)) fun v v' hv=>z91 h n (i+1) (ha.push hv)
theorem z9d{a a':Addr}(h:DR ρ a a')(n:Nat):SR F P (aR F) g ρ (loadCells a n) (loadCells a' n):=z91 h n 0 AR.nil
theorem zef(t:TypeId){a a':Addr}(h:DR ρ a a'):SR F P (vR F) g ρ (loadVar t a) (loadVar t a'):=by
 unfold loadVar
 refine z1t (sr_isAgg t) fun b=>?_
 split
 ·refine z1t (z2c t) fun n=>?_
  exact SR.bind (z9d h n) fun c c' hc=>zb (VR.agg hc.size hc.at_)
 ·exact zf6 h
inductive LR(F:Nat→Prop)(ρ:Bij):List Value→List Value→Prop
 |nil:LR F ρ [] []
 |cons {v v':Value} {l l':List Value} (h:VR F ρ v v') (hl:LR F ρ l l'):LR F ρ (v::l) (v'::l')
theorem LR.of:∀ {l l':List Value},l.length=l'.length→(∀ (i:Nat) (v v':Value),l[i]?=some v→l'[i]?=some v'→VR F ρ v v')→LR F ρ l l'
 | [],[],_,_=>.nil
 | [],_::_,h,_=>by simp at h
 |_::_,[],h,_=>by simp at h
 |v::l,v'::l',h,k=>.cons (k 0 v v' rfl rfl) (LR.of (by simpa using h) fun i a b e e'=>k (i+1) a b (by simpa using e) (by simpa using e'))
theorem AR.list{xs ys:Array Value}(h:AR F ρ xs ys):LR F ρ xs.toList ys.toList:=LR.of (by simpa using h.size) fun i v v' e e'=>h.at_ i v v' (by simpa using e) (by simpa using e')
theorem z5k{a a':Addr}(h:DR ρ a a'){l l':List Value}(hl:LR F ρ l l'):∀ i,SR F P eqR g ρ (storeCells a l i) (storeCells a' l' i):=by
 induction hl with
 |nil=>intro i;exact zb rfl
 |cons hv _ ih=>
  intro i
  exact SR.bind (sr_store (h.add i) hv) fun _ _ _=>ih (i+1)
theorem sr_storeVar(t:TypeId){a a':Addr}(h:DR ρ a a'){v v':Value}(hv:VR F ρ v v'):SR F P eqR g ρ (storeVar t a v) (storeVar t a' v'):=by
 unfold storeVar
 refine z1t (z2c t) fun n=>?_
 rw[hv.cells.size]
 split
 ·exact za
 ·exact z5k h hv.cells.list 0
theorem sr_newVar(t:TypeId){v v':Value}(hv:VR F ρ v v'):SR F P dR true ρ (newVar t v) (newVar t v'):=z7a t hv.cells
theorem zb5(t:TypeId){c c':Array Value}(h:AR F ρ c c')(o:Nat):SR F P (vR F) g ρ (part t c o) (part t c' o):=by
 unfold part
 refine z1t (sr_isAgg t) fun b=>?_
 split
 ·refine z1t (z2c t) fun n=>?_
  have:=h.extract o (o+n)
  exact zb (VR.agg this.size this.at_)
 ·rcases h.get? o with⟨e,e'⟩|⟨v,v',e,e',hv⟩
  ·rw[e,e'];exact za
  ·rw[e,e'];exact zb hv
theorem z8b{v v':Value}(h:VR F ρ v v'):SR F P eqR g ρ (asIntOf v) (asIntOf v'):=by
 cases h<;>first|exact zb rfl|exact za|exact zm (by simp)
theorem z8i{v v':Value}(h:VR F ρ v v'):SR F P eqR g ρ (asInt v) (asInt v'):=z25 (z8b h) fun _=>zb rfl
theorem sr_asBool{v v':Value}(h:VR F ρ v v'):SR F P eqR g ρ (asBool v) (asBool v'):=by
 cases h<;>first|exact zb rfl|exact za
theorem sr_asAgg{v v':Value}(h:VR F ρ v v'):SR F P (aR F) g ρ (asAgg v) (asAgg v'):=by
 cases h with
 |agg h1 h2=>exact zb ⟨h1,h2⟩
 |_=>exact za
theorem z3j{R:Bij→α→α→Prop}{e:RuntimeError}(h:(∀ i c a m,e≠.typeAssertion i c a m)∧e≠.panicNil):SR F P R g ρ (runtimePanic e) (runtimePanic e):=by
 unfold runtimePanic
 refine z1i ?_
 cases e with
 |typeAssertion i c a m=>exact absurd rfl (h.1 _ _ _ _)
 |panicNil=>exact absurd rfl h.2
 |_=>exact sr_panic
theorem z7c{R:Bij→α→α→Prop}(k:IntKind)(x y:Int)(c:BoundsCode):SR F P R g ρ (boundsPanic k x y c) (boundsPanic k x y c):=by
 unfold boundsPanic
 split
 ·refine SR.bind (R:=eqR) ?_ fun a a' e=>by cases e;exact z3j ⟨by simp,by simp⟩
  show SR F P eqR false ρ ((choose (.extern "runtime.boundsError.signed" 2)) >>= fun x=>pure (x==1)) _
  exact z1t (z66 _) fun a=>zb rfl
 ·refine SR.bind (R:=eqR) (zb rfl) fun a a' e=>by cases e;exact z3j ⟨by simp,by simp⟩
theorem sr_asAddr{v v':Value}(h:VR F ρ v v'):SR F P dR g ρ (asAddr v) (asAddr v'):=by
 cases h with
 |ptr o s h=>exact zb (.mk o s h)
 |nilptr=>exact z3j (e:=.nilDeref) ⟨by simp,by simp⟩
 |_=>exact za
theorem z7g{v v':Value}(h:VR F ρ v v'):SR F P dR g ρ (Instr.sureAddr v) (Instr.sureAddr v'):=by
 cases h with
 |ptr o s h=>exact zb (.mk o s h)
 |_=>exact za
theorem sr_loadAt(t:TypeId){v v':Value}(h:VR F ρ v v'):SR F P (vR F) g ρ (Instr.loadAt t v) (Instr.loadAt t v'):=SR.bind (z7g h) fun _ _ ha=>zef t ha
theorem sr_storeAt(t:TypeId){v v' u u':Value}(h:VR F ρ v v')(hu:VR F ρ u u'):SR F P eqR g ρ (Instr.storeAt t v u) (Instr.storeAt t v' u'):=SR.bind (z7g h) fun _ _ ha=>sr_storeVar t ha hu
theorem sr_ptrN{A A':Sem Addr}(h:SR F P dR true ρ A A'):SR F P (vR F) true ρ (do pure (.pointer (some (← A)))) (do pure (.pointer (some (← A')))):=
 SR.bindN h fun σ a a' _ ha=>zb (DR.ptr ha)
theorem sr_alloc(hz:Zs F P)(t:TypeId):SR F P (vR F) true ρ (Instr.alloc t true (.tuple #[])) (Instr.alloc t true (.tuple #[])):=by
 unfold Instr.alloc
 exact SR.bind (z3q hz t) fun v v' hv=>sr_ptrN (sr_newVar t hv)
theorem sr_box(t:TypeId){v v':Value}(hv:VR F ρ v v'):SR F P (vR F) true ρ (Instr.box t v) (Instr.box t v'):=sr_ptrN (sr_newVar t hv)
end
section
variable {F:Nat→Prop}{P:Program}{g:Bool}{ρ:Bij}{α β:Type}
theorem sr_lmapM{γ:Type}{f:α→Sem γ}(h:∀ x,SR F P eqR false ρ (f x) (f x)):∀ xs:List α,SR F P eqR false ρ (xs.mapM f) (xs.mapM f)
 | []=>by rw[List.mapM_nil];exact zb rfl
 |x::xs=>by
  rw[List.mapM_cons]
  exact z1t (h x) fun y=>z1t (sr_lmapM h xs) fun ys=>zb rfl
theorem sr_mapM{γ:Type}{xs:Array α}{f:α→Sem γ}(h:∀ x,SR F P eqR false ρ (f x) (f x)):SR F P eqR false ρ (xs.mapM f) (xs.mapM f):=by
 rw[Array.mapM_eq_mapM_toList]
 show SR F P eqR false ρ (List.toArray <$> xs.toList.mapM f) _
 rw[map_eq_pure_bind]
 exact z1t (sr_lmapM h _) fun y=>zb rfl
abbrev PR(F:Nat→Prop)(ρ:Bij):List (Nat×Value)→List (Nat×Value)→Prop:=fun l l'=>l.length=l'.length∧∀ (i:Nat) (p p':Nat×Value),l[i]?=some p→l'[i]?=some p'→p.1=p'.1∧VR F ρ p.2 p'.2
theorem ar_fill1{c c':Array Value}(h:AR F ρ c c')(off:Nat):∀ (l l':List Value) (j:Nat),LR F ρ l l'→∀ {x x':Array Value},AR F ρ x x' →
  AR F ρ ((l.zipIdx j).foldl (fun cs (p:Value×Nat)=>cs.setIfInBounds (off+p.2) p.1) x) ((l'.zipIdx j).foldl (fun cs (p:Value×Nat)=>cs.setIfInBounds (off+p.2) p.1) x'):=by
 intro l l' j hl
 induction hl generalizing j with
 |nil=>intro x x' hx;exact hx
 |cons hv _ ih=>intro x x' hx;exact ih (j+1) (hx.set _ hv)
theorem fold_zip{x:Array Value}(off:Nat)(c:Array Value):c.zipIdx.foldl (fun cs (p:Value×Nat)=>cs.setIfInBounds (off+p.2) p.1) x=(c.toList.zipIdx 0).foldl (fun cs (p:Value×Nat)=>cs.setIfInBounds (off+p.2) p.1) x:=by
 rw[← Array.foldl_toList];simp
theorem zf7(place:Nat→Option (Nat×Nat)):∀ (l l':List (Nat×Value)),PR F ρ l l'→∀ {c c':Array Value},AR F ρ c c' →
  (Instr.fill place c l=none∧Instr.fill place c' l'=none)∨∃ d d',Instr.fill place c l=some d∧Instr.fill place c' l'=some d'∧AR F ρ d d'
 | [],[],_,c,c',h=>.inr ⟨c,c',rfl,rfl,h⟩
 | [],_::_,h,_,_,_=>by simp[PR] at h
 |_::_,[],h,_,_,_=>by simp[PR] at h
 | (i,v)::l,(i',v')::l',hp,c,c',h=>by
  obtain⟨e,hv⟩:=hp.2 0 (i,v) (i',v') rfl rfl
  simp only at e hv
  subst e
  have hp':PR F ρ l l':=⟨by simpa using hp.1,fun j p p' e e'=>hp.2 (j+1) p p' (by simpa using e) (by simpa using e')⟩
  unfold Instr.fill
  cases place i with
  |none=>exact .inl ⟨rfl,rfl⟩
  |some os=>
   obtain⟨off,size⟩:=os
   simp only
   rw[← hv.cells.size,← h.size]
   split
   ·exact .inl ⟨rfl,rfl⟩
   ·refine zf7 place l l' hp' ?_
    rw[fold_zip,fold_zip]
    exact ar_fill1 h off _ _ 0 hv.cells.list h
theorem pr_of{ps:Array (Nat×Operand)}{f f':Operand→Value}(h:∀ p∈ps,VR F ρ (f p.2) (f' p.2)):PR F ρ (ps.map fun(i,x)=>(i,f x)).toList (ps.map fun(i,x)=>(i,f' x)).toList:=by
 refine⟨by simp,fun i p p' e e'=>?_⟩
 simp only[Array.toList_map,List.getElem?_map,Option.map_eq_some_iff] at e e'
 obtain⟨q,hq,rfl⟩:=e
 obtain⟨q',hq',rfl⟩:=e'
 rw[hq] at hq';cases hq'
 exact⟨rfl,h q (by have:=List.mem_of_getElem? hq;simpa using this)⟩
theorem sr_build(hz:Zs F P)(t:TypeId){ps ps':Array (Nat×Value)}(h:PR F ρ ps.toList ps'.toList):SR F P (vR F) g ρ (Instr.build t ps) (Instr.build t ps'):=by
 unfold Instr.build
 refine SR.bind (z3q hz t) fun z z' hzv=>?_
 refine z1t (zt t) fun d=>?_
 split
 ·rename_i fields
  refine z1t (sr_mapM fun f=>z1t (z2c _) fun n=>zb rfl) fun places=>?_
  rcases zf7 (F:=F) (ρ:=ρ) (fun x=>places[x]?) _ _ h hzv.cells with⟨e,e'⟩|⟨d,d',e,e',hd⟩
  ·simp only[e,e'];exact za
  ·simp only[e,e'];exact zb (VR.agg hd.size hd.at_)
 ·rename_i elem
  refine z1t (z2c _) fun n=>?_
  rcases zf7 (F:=F) (ρ:=ρ) (fun i=>some (i*n,n)) _ _ h hzv.cells with⟨e,e'⟩|⟨d,d',e,e',hd⟩
  ·simp only[e,e'];exact za
  ·simp only[e,e'];exact zb (VR.agg hd.size hd.at_)
 ·exact za
theorem dflt_vr:VR F ρ (default:Value) (default:Value):=.bool _
theorem ar_tile{z z':Array Value}(h:AR F ρ z z')(n:Nat):AR F ρ ((Array.range n).map (fun i=>z[i%z.size]!)) ((Array.range n).map (fun i=>z'[i%z'.size]!)):=by
 refine AR.map fun i _=>?_
 rw[h.size]
 simp only[Array.getElem!_eq_getD]
 exact h.getD dflt_vr _
theorem z5f{R:Bij→β→β→Prop}{u:Unsupported}{f:α→Sem β}{B:Sem β}(h:∀ g,u≠.initOrder g):SR F P R g ρ (unsupported u >>= f) B:=.halt (by cases u<;>first|trivial|exact absurd rfl (h _))
theorem z47{R:Bij→β→β→Prop}{s:String}{f:α→Sem β}{B:Sem β}:SR F P R g ρ (stuck s >>= f) B:=.halt trivial
theorem z4e{R:Bij→β→β→Prop}{e:RuntimeError}{f f':α→Sem β}(h:(∀ i c a m,e≠.typeAssertion i c a m)∧e≠.panicNil):SR F P R g ρ (runtimePanic e >>= f) (runtimePanic e >>= f'):=
 SR.bind (R:=fun _ _ _=>False) (z3j h) fun _ _ x=>x.elim
theorem zco{A A':Sem Addr}(h:SR F P dR true ρ A A')(l k:Nat):SR F P (vR F) true ρ (do pure (.slice (some (← A)) l k)) (do pure (.slice (some (← A')) l k)):=
 SR.bindN h fun σ a a' _ ha=>zb (DR.sl ha l k)
theorem zy{R:Bij→α→α→Prop}{c:Prop}[Decidable c]{A B A' B':Sem α}(h:c→SR F P R g ρ A A')(k:¬ c→SR F P R g ρ B B'):SR F P R g ρ (if c then A else B) (if c then A' else B'):=by
 split
 ·exact h ‹_›
 ·exact k ‹_›
theorem zfl(hz:Zs F P)(t:TypeId)(n:Nat){ps ps':Array (Nat×Value)}(h:PR F ρ ps.toList ps'.toList):SR F P (vR F) true ρ (Instr.buildSlice t n ps) (Instr.buildSlice t n ps'):=by
 unfold Instr.buildSlice
 refine z1t (zt t) fun d=>?_
 split
 ·rename_i elem
  refine z1t (z2c _) fun k=>?_
  dsimp only
  refine zy (fun _=>z5f (by simp)) fun _=>?_
  have key:∀ z z',AR F ρ z z'→SR F P (vR F) true ρ
    (match Instr.fill (fun i=>some (i*k,k)) (Array.map (fun x=>z[x%z.size]!) (Array.range (n*k))) ps.toList with
    |some cells=>do
     let a ← newRow elem cells
     pure (Value.slice (some a) n n)
    |x=>stuck "buildSlice: a part of the wrong size")
    (match Instr.fill (fun i=>some (i*k,k)) (Array.map (fun x=>z'[x%z'.size]!) (Array.range (n*k))) ps'.toList with
    |some cells=>do
     let a ← newRow elem cells
     pure (Value.slice (some a) n n)
    |x=>stuck "buildSlice: a part of the wrong size"):=by
   intro z z' hzz
   rcases zf7 (F:=F) (ρ:=ρ) (fun i=>some (i*k,k)) _ _ h (ar_tile hzz (n*k)) with⟨e,e'⟩|⟨d,d',e,e',hd⟩
   ·simp only[e,e'];exact za
   ·simp only[e,e'];exact zco (z7a _ hd) n n
  refine zy (fun _=>key _ _ AR.nil) fun _=>SR.bind (z3q hz elem) fun z z' hzz=>key _ _ hzz.cells
 ·exact za
theorem sr_makeSlice(hz:Zs F P)(t:TypeId){l l' c c':Value}(hl:VR F ρ l l')(hc:VR F ρ c c'):SR F P (vR F) true ρ (Instr.makeSlice t l c) (Instr.makeSlice t l' c'):=by
 unfold Instr.makeSlice
 refine z1t (zt t) fun d=>?_
 split
 ·rename_i elem
  refine z25 (z8i hl) fun ln=>z25 (z8i hc) fun cn=>z1t (z2m _) fun ti=>?_
  dsimp only
  have rest:SR F P (vR F) true ρ (do
    askRoom ((IntKind.i64.wrap cn).toNat*ti.bytes)
    let s ← sizeOf elem
    let n:=(IntKind.i64.wrap cn).toNat*s
    let zero ← if n=0 then pure #[] else do pure (← zeroValue elem).cells
    let a ← newRow elem ((Array.range n).map (zero[· % zero.size]!))
    pure (.slice (some a) (IntKind.i64.wrap ln).toNat (IntKind.i64.wrap cn).toNat))
   (do
    askRoom ((IntKind.i64.wrap cn).toNat*ti.bytes)
    let s ← sizeOf elem
    let n:=(IntKind.i64.wrap cn).toNat*s
    let zero ← if n=0 then pure #[] else do pure (← zeroValue elem).cells
    let a ← newRow elem ((Array.range n).map (zero[· % zero.size]!))
    pure (.slice (some a) (IntKind.i64.wrap ln).toNat (IntKind.i64.wrap cn).toNat)):=by
   refine z1t (zbd _) fun _=>z1t (z2c _) fun s=>?_
   dsimp only
   refine zy (fun _=>?_) fun _=>?_
   ·exact zco (z7a _ (ar_tile AR.nil _)) _ _
   ·exact SR.bind (z3q hz elem) fun z z' hzz=>zco (z7a _ (ar_tile hzz.cells _)) _ _
  refine zy (fun _=>?_) fun _=>rest
  refine zy (fun _=>z4e ⟨by simp,by simp⟩) fun _=>zy (fun _=>z4e ⟨by simp,by simp⟩) fun _=>?_
  exact z1t (z66 _) fun n=>z4e ⟨by simp,by simp⟩
 ·exact za
abbrev oR(F:Nat→Prop)(ρ:Bij):Option Value→Option Value→Prop:=fun x x'=>(x=none∧x'=none)∨∃ v v',x=some v∧x'=some v'∧VR F ρ v v'
theorem z5l{v v':Value}(h:VR F ρ v v')(y:Nat)(c:BoundsCode):SR F P eqR g ρ (Instr.sliceBound v y c) (Instr.sliceBound v' y c):=by
 unfold Instr.sliceBound
 refine z25 (z8b h) fun ki=>?_
 obtain⟨k,i⟩:=ki
 exact zy (fun _=>zb rfl) fun _=>z7c _ _ _ _
theorem sr_low{l l':Option Value}(h m:Nat)(cd:BoundsCode):oR F ρ l l'→SR F P eqR false ρ (match l with
   |some v=>do let l ← Instr.sliceBound v h cd;pure (l,h,m)
   |none=>do let l ← pure 0;pure (l,h,m)) (match l' with
   |some v=>do let l ← Instr.sliceBound v h cd;pure (l,h,m)
   |none=>do let l ← pure 0;pure (l,h,m)):=by
 rintro(⟨rfl,rfl⟩|⟨v,v',rfl,rfl,hv⟩)
 ·exact zb rfl
 ·exact z25 (z5l hv _ _) fun _=>zb rfl
theorem z62(b:Bool)(n k:Nat){l l' h h' m m':Option Value}(hl:oR F ρ l l')(hh:oR F ρ h h')(hm:oR F ρ m m'):SR F P eqR false ρ (Instr.sliceBounds b n k l h m) (Instr.sliceBounds b n k l' h' m'):=by
 unfold Instr.sliceBounds
 rcases hm with⟨rfl,rfl⟩|⟨vm,vm',rfl,rfl,hvm⟩
 ·refine z1t (zb rfl) fun x=>?_
  rcases hh with⟨rfl,rfl⟩|⟨vh,vh',rfl,rfl,hvh⟩
  ·exact sr_low _ _ _ hl
  ·refine SR.bind (R:=eqR) (z5l hvh _ _) fun x x' e=>?_
   cases e
   exact sr_low _ _ _ hl
 ·refine SR.bind (R:=eqR) (z5l hvm _ _) fun x x' e=>?_
  cases e
  rcases hh with⟨rfl,rfl⟩|⟨vh,vh',rfl,rfl,hvh⟩
  ·exact z47
  ·refine SR.bind (R:=eqR) (z5l hvh _ _) fun y y' e=>?_
   cases e
   exact sr_low _ _ _ hl
theorem z7x{v v':Value}(h:VR F ρ v v')(c:BoundsCode):SR F P (fun _ x x'=>x=0∧x'=0) g ρ (Instr.sliceBound v 0 c) (Instr.sliceBound v' 0 c):=by
 unfold Instr.sliceBound
 refine z25 (z8b h) fun ki=>?_
 obtain⟨k,i⟩:=ki
 exact zy (fun hc=>zb ⟨by omega,by omega⟩) fun _=>z7c _ _ _ _
theorem sr_low0{l l':Option Value}(cd:BoundsCode):oR F ρ l l'→SR F P (fun _ x x'=>x=x'∧x.2=(0,0)) false ρ (match l with
   |some v=>do let l ← Instr.sliceBound v 0 cd;pure (l,0,0)
   |none=>do let l ← pure 0;pure (l,0,0)) (match l' with
   |some v=>do let l ← Instr.sliceBound v 0 cd;pure (l,0,0)
   |none=>do let l ← pure 0;pure (l,0,0)):=by
 rintro(⟨rfl,rfl⟩|⟨v,v',rfl,rfl,hv⟩)
 ·exact zb ⟨rfl,rfl⟩
 ·exact z25 (z5l hv _ _) fun _=>zb ⟨rfl,rfl⟩
theorem zdo(b:Bool){l l' h h' m m':Option Value}(hl:oR F ρ l l')(hh:oR F ρ h h')(hm:oR F ρ m m'):SR F P (fun _ x x'=>x=x'∧x.2=(0,0)) false ρ (Instr.sliceBounds b 0 0 l h m) (Instr.sliceBounds b 0 0 l' h' m'):=by
 unfold Instr.sliceBounds
 rcases hm with⟨rfl,rfl⟩|⟨vm,vm',rfl,rfl,hvm⟩
 ·refine SR.bind (R:=fun _ x x'=>x=0∧x'=0) (zb ⟨rfl,rfl⟩) fun x x' ⟨e,e'⟩=>?_
  subst e e'
  rcases hh with⟨rfl,rfl⟩|⟨vh,vh',rfl,rfl,hvh⟩
  ·exact sr_low0 _ hl
  ·refine SR.bind (z7x hvh _) fun y y' ⟨e,e'⟩=>?_
   subst e e'
   exact sr_low0 _ hl
 ·refine SR.bind (z7x hvm _) fun x x' ⟨e,e'⟩=>?_
  subst e e'
  rcases hh with⟨rfl,rfl⟩|⟨vh,vh',rfl,rfl,hvh⟩
  ·exact z47
  ·refine SR.bind (z7x hvh _) fun y y' ⟨e,e'⟩=>?_
   subst e e'
   exact sr_low0 _ hl
theorem sr_slice(t:TypeId){x x':Value}(hx:VR F ρ x x'){l l' h h' m m':Option Value}(hl:oR F ρ l l')(hh:oR F ρ h h')(hm:oR F ρ m m'):SR F P (vR F) g ρ (Instr.slice t x l h m) (Instr.slice t x' l' h' m'):=by
 unfold Instr.slice
 refine z1t (zt t) fun d=>?_
 have ptr:∀ (arr:TypeId) {y y':Value},VR F ρ y y'→SR F P (vR F) g ρ (do
   let a ← asAddr y
   let .array n elem ← underlying arr|stuck "Slice: array type expected"
   let (l,h,m) ← Instr.sliceBounds false n n l h m
   let size ← sizeOf elem
   pure (.slice (some (if m=l then a else a.add (l*size))) (h-l) (m-l))) (do
   let a ← asAddr y'
   let .array n elem ← underlying arr|stuck "Slice: array type expected"
   let (l,h,m) ← Instr.sliceBounds false n n l' h' m'
   let size ← sizeOf elem
   pure (.slice (some (if m=l then a else a.add (l*size))) (h-l) (m-l))):=fun arr y y' hy=>by
  refine SR.bind (sr_asAddr hy) fun a a' ha=>z1t (zt _) fun d=>?_
  split
  ·refine z25 (z62 _ _ _ hl hh hm) fun b=>?_
   obtain⟨b1,b2,b3⟩:=b
   refine z1t (z2c _) fun s=>zb ?_
   split
   ·exact ha.sl _ _
   ·exact(ha.add _).sl _ _
  ·exact za
 have sls:∀ (elem:TypeId) {a a':Option Addr} (n k:Nat),(∀ f:Addr→Addr,(∀ x y,DR ρ x y→DR ρ (f x) (f y))→∀ p q,VR F ρ (.slice (a.map f) p q) (.slice (a'.map f) p q))→SR F P (vR F) g ρ (do
   let (l,h,m) ← Instr.sliceBounds true n k l h m
   let size ← sizeOf elem
   pure (.slice (if m=l then a else a.map (·.add (l*size))) (h-l) (m-l))) (do
   let (l,h,m) ← Instr.sliceBounds true n k l' h' m'
   let size ← sizeOf elem
   pure (.slice (if m=l then a' else a'.map (·.add (l*size))) (h-l) (m-l))):=fun elem a a' n k hf=>by
  refine z25 (z62 _ _ _ hl hh hm) fun b=>?_
  obtain⟨b1,b2,b3⟩:=b
  refine z1t (z2c _) fun s=>zb ?_
  split
  ·simpa using hf id (fun _ _ h=>h) (b2-b1) (b3-b1)
  ·exact hf _ (fun _ _ h=>h.add _) _ _
 cases d<;>cases hx<;>first|exact za|skip
 all_goals first
  |exact ptr _ (by constructor<;>assumption)
  |skip
 ·dsimp only
  rcases hm with⟨rfl,rfl⟩|⟨vm,vm',rfl,rfl,hvm⟩
  ·refine z25 (z62 _ _ _ hl hh (.inl ⟨rfl,rfl⟩)) fun b=>?_
   obtain⟨b1,b2,b3⟩:=b
   exact zb (.string _)
  ·exact z47
 ·exact sls _ _ _ fun f hf p q=>.nilsl p q
 ·rename_i hr
  exact sls _ _ _ fun f hf p q=>(hf _ _ (DR.mk _ _ hr)).sl p q
 ·dsimp only
  refine SR.bind (zdo _ hl hh hm) fun b b' ⟨e,e2⟩=>?_
  subst e
  obtain⟨b1,b2,b3⟩:=b
  cases e2
  refine z1t (z2c _) fun s=>zb ?_
  simp only[Nat.zero_sub]
  split<;>exact .slE _ _
theorem sr_sliceAt(t:TypeId){x x':Value}(hx:VR F ρ x x'){l l' h h' m m':Option Value}(hl:oR F ρ l l')(hh:oR F ρ h h')(hm:oR F ρ m m'):SR F P (vR F) g ρ (Instr.sliceAt t x l h m) (Instr.sliceAt t x' l' h' m'):=by
 unfold Instr.sliceAt
 refine z1t (zt t) fun d=>?_
 split
 ·refine SR.bind (z7g hx) fun a a' ha=>z25 (z62 _ _ _ hl hh hm) fun b=>?_
  obtain⟨b1,b2,b3⟩:=b
  refine z1t (z2c _) fun s=>zb ?_
  split
  ·exact ha.sl _ _
  ·exact(ha.add _).sl _ _
 ·exact sr_slice t hx hl hh hm
end
section
variable {F:Nat→Prop}{P:Program}{g:Bool}{ρ:Bij}{α β:Type}
theorem sr_viewAt{r r':Nat}(h:ρ r r'):SR F P (fun _ x x'=>x=none∧x'=none) g ρ (viewAt r) (viewAt r'):=by
 unfold viewAt
 refine SR.bind (R:=eqR) (z6n h) fun x x' e=>?_
 cases e
 refine zy (fun _=>zb ⟨rfl,rfl⟩) fun _=>SR.bind (zcw h) fun o o' ho=>?_
 cases ho<;>exact zb ⟨rfl,rfl⟩
theorem zcv{a a':Addr}(h:DR ρ a a'):SR F P eqR g ρ (noView a) (noView a'):=by
 unfold noView
 refine SR.bind (sr_viewAt h.blk) fun x x' ⟨e,e'⟩=>?_
 subst e e'
 exact zb rfl
theorem zd8{r r':Nat}(h:ρ r r'):SR F P (fun σ x x'=>(x=none∧x'=none)∨∃ a a' l,x=some (a,l)∧x'=some (a',l)∧DR σ a a') g ρ (numberAt r) (numberAt r'):=by
 unfold numberAt
 refine SR.bind (R:=eqR) (z6n h) fun x x' e=>?_
 cases e
 refine zy (fun _=>zb (.inl ⟨rfl,rfl⟩)) fun _=>SR.bind (zcw h) fun o o' ho=>?_
 cases ho with
 |cells e ha hf=>exact zb (.inl ⟨rfl,rfl⟩)
 |iter s p=>exact zb (.inl ⟨rfl,rfl⟩)
 |number o s l h=>exact zb (.inr ⟨_,_,l,rfl,rfl,.mk o s h⟩)
theorem z83{a a':Addr}(h:DR ρ a a'):SR F P (fun σ x x'=>DR σ x.1 x'.1∧x.2=x'.2) g ρ (behindNumber a) (behindNumber a'):=by
 unfold behindNumber
 refine SR.bind (zd8 h.blk) fun x x' hx=>?_
 rcases hx with⟨rfl,rfl⟩|⟨a,a',l,rfl,rfl,h⟩
 ·exact zb ⟨h,rfl⟩
 ·exact zb ⟨h,rfl⟩
theorem sr_asNumber{a a':Addr}(h:DR ρ a a')(l:Bool):SR F P (vR F) true ρ (asNumber a l) (asNumber a' l):=by
 unfold asNumber
 refine SR.bindN (R:=fun σ r r'=>σ.rel r r') (g:=true) ?_ fun σ r r' _ hr=>zb (.ptr 0 none hr)
 cases h with
 |mk o s h=>exact SR.new (.number o s l h) fun σ r r' _ hr=>.pure hr
theorem z7b{a a':Addr}(h:DR ρ a a'):SR F P eqR g ρ (byteOf a) (byteOf a'):=by
 unfold byteOf
 rw[← h.spot]
 split
 ·exact zb rfl
 ·refine z1i ?_
  refine SR.bind (R:=eqR) (zcv h) fun _ _ _=>SR.bind (R:=eqR) (z6n h.blk) fun x x' e=>?_
  cases e
  split
  ·dsimp only
   refine zy (fun _=>zb rfl) fun _=>?_
   rw[← h.off]
   split
   ·exact zb rfl
   ·exact za
  ·exact za
theorem sr_partAt{a a':Addr}(h:DR ρ a a')(c b:Nat):SR F P dR g ρ (partAt a c b) (partAt a' c b):=by
 unfold partAt
 refine SR.bind (R:=eqR) (z7b h) fun x x' e=>?_
 cases e
 dsimp only
 have hp:DR ρ ⟨a.block,a.off+c,none⟩ ⟨a'.block,a'.off+c,none⟩:=by rw[← h.off];exact h.at_ _ _
 refine SR.bind (R:=eqR) (z7b hp) fun y y' e=>?_
 cases e
 refine zb ?_
 split
 ·exact hp
 ·rw[← h.off];exact h.at_ _ _
theorem zfk{a a':Addr}(h:DR ρ a a')(f:Field):SR F P dR g ρ (fieldPlace a f) (fieldPlace a' f):=by
 unfold fieldPlace
 refine z1t (z2c _) fun n=>?_
 exact zy (fun _=>sr_partAt h _ _) fun _=>zb (h.add _)
theorem sr_fieldAt(t:TypeId){v v':Value}(h:VR F ρ v v')(f:Nat):SR F P (vR F) g ρ (Instr.fieldAt t v f) (Instr.fieldAt t v' f):=by
 unfold Instr.fieldAt
 refine z1t (zt _) fun d=>?_
 split
 ·split
  ·exact SR.bind (z7g h) fun a a' ha=>SR.bind (zfk ha _) fun b b' hb=>zb hb.ptr
  ·exact za
 ·exact za
theorem sr_indexAt(t:TypeId){x x' y y':Value}(hx:VR F ρ x x')(hy:VR F ρ y y'):SR F P (vR F) g ρ (Instr.indexAt t x y) (Instr.indexAt t x' y'):=by
 unfold Instr.indexAt
 refine z25 (z8b hy) fun ki=>?_
 obtain⟨k,i⟩:=ki
 dsimp only
 refine z1t (zt _) fun d=>?_
 have tail:∀ (a a':Option Addr) (len elem:Nat),((a=none∧a'=none)∨∃ b b',a=some b∧a'=some b'∧DR ρ b b')→SR F P (vR F) g ρ (do
   let __do_lift ← underlying t
   let tiny:=len≤1&&(match __do_lift with|.array .. => true|_=>false)
   match a with
   |some a=>
    if 0≤i∧i<len then do
     let s ← sizeOf elem
     pure (.pointer (some (a.add (i.toNat*s))))
    else if tiny then unsupported (.noEntry "op/indexAddr.an index out of range at an array of length 0 or 1 (ledger 616)")
    else boundsPanic k i len .index
   |none=>boundsPanic k i 0 .index) (do
   let __do_lift ← underlying t
   let tiny:=len≤1&&(match __do_lift with|.array .. => true|_=>false)
   match a' with
   |some a=>
    if 0≤i∧i<len then do
     let s ← sizeOf elem
     pure (.pointer (some (a.add (i.toNat*s))))
    else if tiny then unsupported (.noEntry "op/indexAddr.an index out of range at an array of length 0 or 1 (ledger 616)")
    else boundsPanic k i len .index
   |none=>boundsPanic k i 0 .index):=by
  intro a a' len elem h
  refine z1t (zt _) fun d=>?_
  dsimp only
  rcases h with⟨rfl,rfl⟩|⟨b,b',rfl,rfl,h⟩
  ·exact z7c _ _ _ _
  ·refine zy (fun _=>z1t (z2c _) fun s=>zb (h.add _).ptr) fun _=>?_
   exact zy (fun _=>zm (by simp)) fun _=>z7c _ _ _ _
 cases d with
 |array len elem=>exact SR.bind (z7g hx) fun a a' ha=>tail (some a) (some a') len elem (.inr ⟨a,a',rfl,rfl,ha⟩)
 |slice elem=>
  cases hx with
  |nilsl l k=>exact tail none none l elem (.inl ⟨rfl,rfl⟩)
  |sl o s l k h=>exact tail (some _) (some _) l elem (.inr ⟨_,_,rfl,rfl,.mk o s h⟩)
  |slE a a'=>
   refine z1t (zt _) fun d=>?_
   dsimp only
   refine zy (fun h=>absurd h (by omega)) fun _=>?_
   exact zy (fun _=>zm (by simp)) fun _=>z7c _ _ _ _
  |_=>exact z47
 |_=>exact z47
theorem sr_index(t:TypeId){x x' y y':Value}(hx:VR F ρ x x')(hy:VR F ρ y y'):SR F P (vR F) g ρ (Instr.index t x y) (Instr.index t x' y'):=by
 unfold Instr.index
 refine z25 (z8b hy) fun ki=>?_
 obtain⟨k,i⟩:=ki
 dsimp only
 refine z1t (zt _) fun d=>?_
 cases d with
 |array len elem=>
  cases hx with
  |agg h1 h2=>exact zy (fun _=>z1t (z2c _) fun s=>zb5 _ ⟨h1,h2⟩ _) fun _=>z7c _ _ _ _
  |_=>exact za
 |string=>
  cases hx with
  |string s=>
   dsimp only
   split
   ·exact zb (.int _ _)
   ·exact z7c _ _ _ _
  |_=>exact za
 |_=>exact za
theorem sr_field(t:TypeId){x x':Value}(hx:VR F ρ x x')(f:Nat):SR F P (vR F) g ρ (Instr.field t x f) (Instr.field t x' f):=by
 unfold Instr.field
 refine z1t (zt _) fun d=>?_
 split
 ·split
  ·exact SR.bind (sr_asAgg hx) fun a a' ha=>zb5 _ ha _
  ·exact za
 ·exact za
theorem sr_extract{x x':Value}(hx:VR F ρ x x')(i:Nat):SR F P (vR F) g ρ (Instr.extract x i) (Instr.extract x' i):=by
 unfold Instr.extract
 cases hx with
 |tuple h1 h2=>
  rcases(AR.mk h1 h2:AR F ρ _ _).get? i with⟨e,e'⟩|⟨v,v',e,e',hv⟩
  ·simp only[e,e'];exact za
  ·simp only[e,e'];exact zb hv
 |_=>exact za
theorem zc4(t:TypeId)(ht:t<220){x x':Value}(hx:VR F ρ x x'):SR F P (vR F) g ρ (Instr.makeInterface t x) (Instr.makeInterface t x'):=by
 unfold Instr.makeInterface
 refine z1t (zt _) fun d=>?_
 split
 ·exact za
 ·exact zb (.iface t ht hx)
theorem dr_blk(hb:Bi P ρ){a a' b b':Addr}(ha:DR ρ a a')(hb':DR ρ b b'):(a.block==b.block)=(a'.block==b'.block):=by
 rw[Bool.eq_iff_iff]
 simp only[beq_iff_eq]
 exact⟨fun e=>hb.fn ha.blk (e▸hb'.blk),fun e=>hb.inj ha.blk (e▸hb'.blk)⟩
theorem dr_eq(hb:Bi P ρ){a a' b b':Addr}(ha:DR ρ a a')(hb':DR ρ b b'):(a==b)=(a'==b'):=by
 rw[Bool.eq_iff_iff]
 simp only[beq_iff_eq]
 cases ha with|mk o s h=>cases hb' with|mk o' s' h'=>
 simp only[Addr.mk.injEq]
 exact⟨fun⟨e,k⟩=>⟨hb.fn h (e▸h'),k⟩,fun⟨e,k⟩=>⟨hb.inj h (e▸h'),k⟩⟩
theorem zbs{a a':Addr}(h:DR ρ a a'):SR F P (fun _ x x'=>x'=true→x=true) g ρ (stringish a) (stringish a'):=by
 unfold stringish
 refine SR.bind (zat h) fun x x' hx=>?_
 have rest:SR F P (fun _ x x'=>x'=true→x=true) g ρ (do
   match ← shape a.block with
   |some (_,n)=>frozen {block:=a.block,off:=n}
   |none=>pure false) (do
   match ← shape a'.block with
   |some (_,n)=>frozen {block:=a'.block,off:=n}
   |none=>pure false):=by
  refine SR.bind (R:=eqR) (z6n h.blk) fun y y' e=>?_
  cases e
  split
  ·exact zat (h.at_ _ _)
  ·exact zb (fun h=>h)
 cases x' with
 |true=>
  rw[hx rfl]
  exact zb fun _=>rfl
 |false=>
  cases x with
  |false=>exact rest
  |true=>
   refine SR.shapeR fun y=>?_
   show SR F P _ g ρ (Pure.pure true) (match y with|some (_,n)=>frozen {block:=a'.block,off:=n} | none=>pure false)
   split
   ·exact SR.frozenR fun z=>.pure fun _=>rfl
   ·exact zb fun _=>rfl
theorem sr_mayBeOne{a a' b b':Addr}(ha:DR ρ a a')(hb:DR ρ b b'):SR F P (fun _ x x'=>x'=true→x=true) g ρ (mayBeOne a b) (mayBeOne a' b'):=by
 unfold mayBeOne
 refine SR.bind (zbs ha) fun x x' hx=>SR.bind (zbs hb) fun y y' hy=>?_
 dsimp only
 refine SR.bind (R:=eqR) (SR.bind (R:=eqR) (z6n ha.blk) fun z z' e=>by cases e;exact zb rfl) fun p p' e=>?_
 cases e
 refine SR.bind (R:=eqR) (SR.bind (R:=eqR) (z6n hb.blk) fun z z' e=>by cases e;exact zb rfl) fun q q' e=>?_
 cases e
 refine zb ?_
 cases x<;>cases x'<;>cases y<;>cases y'<;>cases p<;>cases q<;>simp_all
theorem zd7(hbi:Bi P ρ){a a' b b':Addr}(ha:DR ρ a a')(hb:DR ρ b b'):SR F P eqR g ρ (sameAddr a b) (sameAddr a' b'):=by
 unfold sameAddr
 rw[dr_blk hbi ha hb,dr_eq hbi ha hb]
 refine zy (fun _=>zb rfl) fun _=>?_
 refine SR.bind (zat ha) fun x x' hx=>SR.bind (zat hb) fun y y' hy=>?_
 dsimp only
 by_cases h:(x&&y)=true
 ·rw[if_pos h];exact z5f (by simp)
 ·have h':¬ (x'&&y')=true:=by
   intro e;apply h
   simp only[Bool.and_eq_true] at e ⊢
   exact⟨hx e.1,hy e.2⟩
  rw[if_neg h,if_neg h']
  refine SR.bind (R:=eqR) (zcv ha) fun _ _ _=>SR.bind (R:=eqR) (zcv hb) fun _ _ _=>SR.bind (sr_mayBeOne ha hb) fun z z' hz=>?_
  cases z' with
  |true=>
   rw[hz rfl]
   exact z1t (z66 _) fun n=>zb rfl
  |false=>
   cases z with
   |false=>exact zb rfl
   |true=>exact SR.chooseL (by rfl) 0 (.pure rfl)
theorem z63(hbi:Bi P ρ){a a' b b':Option Addr}(ha:(a=none∧a'=none)∨∃ x x',a=some x∧a'=some x'∧DR ρ x x')(hb:(b=none∧b'=none)∨∃ x x',b=some x∧b'=some x'∧DR ρ x x') :
  SR F P eqR g ρ (samePointer a b) (samePointer a' b'):=by
 rcases ha with⟨rfl,rfl⟩|⟨x,x',rfl,rfl,hx⟩<;>rcases hb with⟨rfl,rfl⟩|⟨y,y',rfl,rfl,hy⟩
 ·exact zb rfl
 ·exact zb rfl
 ·exact zb rfl
 ·exact zd7 hbi hx hy
theorem sr_forRange{γ:Type}{n:Nat}{f f':Nat→γ→Sem (ForInStep γ)}(h:∀ x s,SR F P eqR false ρ (f x s) (f' x s)):∀ s,SR F P eqR false ρ (forIn [0:n] s f) (forIn [0:n] s f'):=by
 intro s
 rw[Std.Legacy.Range.forIn_eq_forIn_range',Std.Legacy.Range.forIn_eq_forIn_range']
 generalize List.range' _ _ _=l
 induction l generalizing s with
 |nil=>simp only[List.forIn_nil];exact zb rfl
 |cons x l ih=>
  simp only[List.forIn_cons]
  refine z25 (h x s) fun r=>?_
  cases r with
  |done s=>exact zb rfl
  |yield s=>exact ih s
end
end Go.Mn
set_option maxHeartbeats 4000000
namespace Go.Mn
section
variable {F:Nat→Prop}{P:Program}{g:Bool}{ρ:Bij}{α β:Type}
structure zbz(P:Program)(Q:TypeId→Bool):Prop where
 fn:∀ {t a b c},Q t=true→P.underlying t≠some (.func a b c)
 st:∀ {t fs},Q t=true→P.underlying t=some (.struct fs)→∀ f∈fs,Q f.type=true
 ar:∀ {t n e},Q t=true→P.underlying t=some (.array n e)→Q e=true
 dyn:∀ {t i},t<220→P.info? t=some i→i.comparable=true→Q t=true
theorem z3c(t:TypeId):SR F P (fun _ a a'=>a=a'∧P.underlying t=some a) g ρ (underlying t) (underlying t):=by
 unfold underlying
 refine z1i ?_
 split
 ·rename_i h;exact zb ⟨rfl,h⟩
 ·exact za
theorem sr_forInM{γ:Type}{xs:Array α}{f f':α→γ→Sem (ForInStep γ)}(h:∀ x∈xs,∀ s,SR F P eqR false ρ (f x s) (f' x s)):∀ s,SR F P eqR false ρ (forIn xs s f) (forIn xs s f'):=by
 intro s
 rw[← Array.forIn_toList,← Array.forIn_toList]
 have h:∀ x∈xs.toList,∀ s,SR F P eqR false ρ (f x s) (f' x s):=fun x hx=>h x (by simpa using hx)
 revert h
 induction xs.toList generalizing s with
 |nil=>intro h;simp only[List.forIn_nil];exact zb rfl
 |cons x xs ih=>
  intro h
  simp only[List.forIn_cons]
  refine z25 (h x List.mem_cons_self s) fun r=>?_
  cases r with
  |done b=>exact zb rfl
  |yield b=>exact ih b fun y hy=>h y (List.mem_cons_of_mem _ hy)
theorem z9o{Q:TypeId→Bool}(hc:zbz P Q)(hb:Bi P ρ):∀ (d:Nat) (t:TypeId) {x x' y y':Value},Q t=true→VR F ρ x x'→VR F ρ y y'→SR F P eqR false ρ (Op.equalIn d t x y) (Op.equalIn d t x' y')
 |0,t,_,_,_,_,_,_,_=>by unfold Op.equalIn;exact zm (by simp)
 |d+1,t,x,x',y,y',hq,hx,hy=>by
  unfold Op.equalIn
  refine SR.bind (z3c _) fun u u' ⟨eu,hu⟩=>?_
  subst eu
  cases u with
  |bool=>cases hx<;>cases hy<;>first|exact za|exact zb rfl
  |string=>cases hx<;>cases hy<;>first|exact za|exact zb rfl
  |int k=>
   cases hx<;>cases hy<;>first
    |exact za
    |exact zm (by simp)
    |exact zy (fun _=>zb rfl) fun _=>za
    |skip
   ·rename_i k1 n b c o s hr
    by_cases hn:n=0
    ·subst hn;exact zb rfl
    ·split<;>first|exact zm (by simp)|(exfalso;simp_all;done)
   ·rename_i b c o s hr k1 n
    by_cases hn:n=0
    ·subst hn;exact zb rfl
    ·split<;>first|exact zm (by simp)|(exfalso;simp_all;done)
   ·rename_i b c o s hr b1 c1 o1 s1 hr1
    refine SR.bind (z83 (.mk o s hr)) fun p p' ⟨hp,_⟩=>SR.bind (z83 (.mk o1 s1 hr1)) fun q q' ⟨hq,_⟩=>?_
    dsimp only
    refine z1i ?_
    rw[dr_blk hb hp hq,dr_eq hb hp hq]
    have hg:(p'.1.block==q'.1.block&&decide (p.1.block<P.globals.size))=(p'.1.block==q'.1.block&&decide (p'.1.block<P.globals.size)):=by
     by_cases h1:p.1.block<P.globals.size
     ·rw[hb.glob hp.blk (.inl h1)]
     ·by_cases h2:p'.1.block<P.globals.size
      ·rw[hb.glob hp.blk (.inr h2)]
      ·simp[h1,h2]
    rw[hg]
    refine zy (fun _=>?_) fun _=>?_
    ·refine SR.bind (R:=eqR) (z7b hp) fun x x' e=>SR.bind (R:=eqR) (z7b hq) fun y y' e'=>?_
     cases e;cases e';exact zb rfl
    ·refine z1t (z2m _) fun i=>?_
     split
     ·exact zy (fun _=>zb rfl) fun _=>zm (by simp)
     ·exact zm (by simp)
  |pointer e=>
   cases hx<;>cases hy<;>first
    |exact za
    |exact zb rfl
    |skip
   rename_i b c o s hr b1 c1 o1 s1 hr1
   refine z1t (z2c _) fun n=>?_
   rw[dr_eq hb (.mk o s hr) (.mk o1 s1 hr1)]
   refine zy (fun _=>zd7 hb (.mk o s hr) (.mk o1 s1 hr1)) fun _=>zy (fun _=>zb rfl) fun _=>?_
   exact z1t (z66 _) fun n=>zb rfl
  |unsafePointer=>
   cases hx<;>cases hy<;>first
    |exact za
    |exact z63 hb (.inl ⟨rfl,rfl⟩) (.inl ⟨rfl,rfl⟩)
    |exact z63 hb (.inl ⟨rfl,rfl⟩) (.inr ⟨_,_,rfl,rfl,.mk _ _ ‹_›⟩)
    |exact z63 hb (.inr ⟨_,_,rfl,rfl,.mk _ _ ‹_›⟩) (.inl ⟨rfl,rfl⟩)
    |skip
   rename_i b c o s hr b1 c1 o1 s1 hr1
   exact z63 hb (.inr ⟨_,_,rfl,rfl,.mk o s hr⟩) (.inr ⟨_,_,rfl,rfl,.mk o1 s1 hr1⟩)
  |chan _ _=>cases hx<;>cases hy<;>first|exact za|exact zb rfl
  |interface ms=>
   cases hx<;>cases hy<;>first
    |exact za
    |exact zb rfl
    |skip
   rename_i tx htx v v' hv ty hty u u' hu
   refine zy (fun _=>zb rfl) fun _=>SR.bind (zbq _) fun i i' ⟨ei,hi⟩=>?_
   subst ei
   refine zy (fun _=>?_) fun hcm=>z9o hc hb d tx (hc.dyn htx hi (by simpa using hcm)) hv hu
   refine z1i (z1i ?_)
   dsimp only
   have h1:SR F P eqR false ρ (typeStr tx) (typeStr tx):=by
    unfold typeStr
    refine z1t (z2m _) fun i=>?_
    exact zy (fun _=>zm (by simp)) fun _=>zb rfl
   exact zy (fun _=>z5f (by simp)) fun _=>z1t h1 fun s=>z3j ⟨by simp,by simp⟩
  |struct fs=>
   cases hx<;>cases hy<;>first
    |exact za
    |skip
   rename_i xs xs' h1 h2 ys ys' h3 h4
   refine z1i ?_
   dsimp only
   refine zy (fun _=>z5f (by simp)) fun _=>?_
   refine z25 (sr_forInM (fun f hf s=>?_) _) fun r=>?_
   ·refine zy (fun _=>?_) fun _=>zb rfl
    refine SR.bind (zb5 _ ⟨h1,h2⟩ _) fun x x' hx=>SR.bind (zb5 _ ⟨h3,h4⟩ _) fun y y' hy=>z25 (z9o hc hb d _ (hc.st hq hu f hf) hx hy) fun r=>?_
    exact zy (fun _=>zb rfl) fun _=>zb rfl
   ·try dsimp only
    split<;>exact zb rfl
  |array n e=>
   cases hx<;>cases hy<;>first
    |exact za
    |skip
   rename_i xs xs' h1 h2 ys ys' h3 h4
   refine z1t (z2c _) fun n=>?_
   refine z25 (sr_forRange (fun f s=>?_) _) fun r=>?_
   ·refine SR.bind (zb5 _ ⟨h1,h2⟩ _) fun x x' hx=>SR.bind (zb5 _ ⟨h3,h4⟩ _) fun y y' hy=>z25 (z9o hc hb d _ (hc.ar hq hu) hx hy) fun r=>?_
    exact zy (fun _=>zb rfl) fun _=>zb rfl
   ·try dsimp only
    split<;>exact zb rfl
  |slice e=>cases hx<;>cases hy<;>first|exact za|exact zb rfl
  |map _ _=>cases hx<;>cases hy<;>first|exact za|exact zb rfl
  |func _ _ _=>exact absurd hu (hc.fn hq)
  |float k=>cases hx<;>cases hy<;>exact za
  |complex k=>cases hx<;>cases hy<;>exact za
  |_=>exact za
theorem zc5(d:Nat)(t:TypeId):SR F P eqR false ρ (Op.eqGuardIn d t .nilIface .nilIface) (Op.eqGuardIn d t .nilIface .nilIface):=by
 cases d with
 |zero=>unfold Op.eqGuardIn;exact zm (by simp)
 |succ d=>
  unfold Op.eqGuardIn
  refine z1t (zt _) fun u=>?_
  cases u<;>exact zb rfl
theorem dead_equalL{Q:TypeId→Bool}(hc:zbz P Q){t:TypeId}(hq:Q t=true)(d:Nat)(y:Value)(w:World):∃ h w',Dead h∧(Op.equalIn d t .nilFunc y).run P w=.halt h w':=by
 cases d with
 |zero=>unfold Op.equalIn;refine⟨_,w,?_,rfl⟩;trivial
 |succ d=>
  unfold Op.equalIn
  cases hu:P.underlying t with
  |none=>exact⟨.stuck "no such type",w,trivial,by simp[Sem.run_bind,underlying,hu]⟩
  |some u=>
   have hr:(underlying t).run P w=.ok u w:=by simp[underlying,hu]
   simp only[Sem.run_bind,hr,Result.andThen_ok]
   cases u with
   |func a b c=>exact absurd hu (hc.fn hq)
   |_=>cases y<;>first|(refine⟨_,w,?_,rfl⟩;trivial)|(rename_i a _ _;cases a<;>(refine⟨_,w,?_,rfl⟩;trivial))|(rename_i a;cases a<;>(refine⟨_,w,?_,rfl⟩;trivial))
theorem dead_equalR{Q:TypeId→Bool}(hc:zbz P Q){t:TypeId}(hq:Q t=true)(d:Nat)(x:Value)(w:World):∃ h w',Dead h∧(Op.equalIn d t x .nilFunc).run P w=.halt h w':=by
 cases d with
 |zero=>unfold Op.equalIn;refine⟨_,w,?_,rfl⟩;trivial
 |succ d=>
  unfold Op.equalIn
  cases hu:P.underlying t with
  |none=>exact⟨.stuck "no such type",w,trivial,by simp[Sem.run_bind,underlying,hu]⟩
  |some u=>
   have hr:(underlying t).run P w=.ok u w:=by simp[underlying,hu]
   simp only[Sem.run_bind,hr,Result.andThen_ok]
   cases u with
   |func a b c=>exact absurd hu (hc.fn hq)
   |_=>cases x<;>first|(refine⟨_,w,?_,rfl⟩;trivial)|(rename_i a _ _;cases a<;>(refine⟨_,w,?_,rfl⟩;trivial))|(rename_i a;cases a<;>(refine⟨_,w,?_,rfl⟩;trivial))
end
end Go.Mn
