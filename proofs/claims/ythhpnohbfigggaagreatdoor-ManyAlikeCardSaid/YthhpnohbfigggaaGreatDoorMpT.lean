/- Zero values correspond to themselves, whatever the type; the three entries of internal/bytealg. -/
import Derived.Test.YthhpnohbfigggaaGreatDoorMn1
set_option linter.all false
namespace Go.Mn
section
variable {F:Nat→Prop}{ρ:Bij}
theorem forIn_inv{α β:Type}(I:β→Prop)(f:α→β→Option (ForInStep β))(hf:∀ a b r,I b→f a b=some r→(match r with|.done b'=>I b'|.yield b'=>I b')):∀ (l:List α) (b r:β),I b→forIn l b f=some r→I r
 | [],b,r,hb,h=>by simp[pure] at h;subst h;exact hb
 |a::l,b,r,hb,h=>by
  rw[List.forIn_cons] at h
  simp only[bind,Option.bind_eq_some_iff] at h
  obtain⟨x,hx,h⟩:=h
  have:=hf a b x hb hx
  cases x with
  |done b'=>simp[pure] at h;subst h;exact this
  |yield b'=>exact forIn_inv I f hf l b' r this h
def ZI(F:Nat→Prop)(ρ:Bij)(z:Option (Array Value)):Prop:=∀ v,z=some v→AR F ρ v v
theorem vz_struct{info:TypeId→Option TypeInfo}(hi:∀ t i v,info t=some i→i.zero=some v→VR F ρ v v){fs:Array Field}{i:TypeInfo}(h:Made.reckonStruct info fs=some i){v:Value}(hz:i.zero=some v):VR F ρ v v:=by
 unfold Made.reckonStruct at h
 simp only[bind,Option.bind_eq_some_iff,pure] at h
 obtain⟨a,ha,h⟩:=h
 rw[← Array.forIn_toList] at ha
 have key:ZI F ρ a.2.2.2.2.2.2.2.1:=by
  refine forIn_inv (fun b=>ZI F ρ b.2.2.2.2.2.2.2.1) _ (fun f b r hb h=>?_) _ _ _ ?_ ha
  ·simp only[Option.bind_eq_some_iff] at h
   obtain⟨j,hj,h⟩:=h
   have st:∀ v,(if b.2.1+j.size>Made.mostCells then none else b.2.2.2.2.2.2.2.1.bind fun x=>j.zero.bind fun y=>some (x++y.cells))=some v→AR F ρ v v:=fun v hv=>by
    split at hv
    ·cases hv
    ·simp only[Option.bind_eq_some_iff,Option.some.injEq] at hv
     obtain⟨x,hx,y,hy,rfl⟩:=hv
     exact(hb x hx).append (hi _ _ _ hj hy).cells
   repeat' first
    | (rw[Option.bind_eq_some_iff] at h;obtain⟨_,_,h⟩:=h)
    | (split at h)
   all_goals first
    | (rename_i hh;cases hh;done)
    | (have e:=Option.some.inj h;subst e;first|exact st|exact fun v hv=>st v ((if_pos ‹_›).trans hv)|exact fun v hv=>st v ((if_neg ‹_›).trans hv))
    | (cases ‹none=some _›;done)
  ·intro v hv
   cases hv
   exact AR.nil
 have fin:∀ v,Option.map Value.agg a.2.2.2.2.2.2.2.1=some v→VR F ρ v v:=fun v hv=>by
  obtain⟨x,hx,rfl⟩:=Option.map_eq_some_iff.1 hv
  exact .agg rfl (key x hx).at_
 split at h<;>(cases h;exact fin v hz)
theorem vz_reckon{info:TypeId→Option TypeInfo}(hi:∀ t i v,info t=some i→i.zero=some v→VR F ρ v v){d:TypeDesc}{i:TypeInfo}(h:Made.reckon info d=some i){v:Value}(hz:i.zero=some v):VR F ρ v v:=by
 unfold Made.reckon at h
 split at h
 all_goals try simp only[bind,Option.bind_eq_some_iff,pure] at h
 case h_7=>exact vz_struct hi h hz
 all_goals repeat' first
  | (obtain⟨_,hj,h⟩:=h)
  | (split at h)
 all_goals first
  | (cases h;done)
  | (simp only[Made.word,Option.some.injEq] at hz;subst hz;constructor;done)
  |skip
 all_goals first
  | (cases ‹none=some _›;done)
  |skip
 iterate 2 (rw[Option.bind_eq_some_iff] at h;obtain⟨_,_,h⟩:=h;cases h;simp only[Made.word,Option.some.injEq] at hz;subst hz;constructor)
 ·rename_i hj0 _
  dsimp only at hz
  split at hz
  ·cases hz
  ·split at hz
   ·cases hz;exact .agg rfl fun i v v' h=>by simp at h
   ·obtain⟨z,hz0,rfl⟩:=Option.map_eq_some_iff.1 hz
    have hc:=(hi _ _ _ hj0 hz0).cells
    refine .agg rfl fun i v v' h h'=>?_
    rw[h] at h';cases h'
    obtain⟨xs,hxs,hv⟩:=Array.mem_flatten.1 (Array.mem_of_getElem? h)
    have:=(Array.mem_replicate.1 hxs).2
    subst this
    obtain⟨k,hk⟩:=Array.mem_iff_getElem?.1 hv
    exact hc.at_ k _ _ hk hk
theorem vz_at{T:Tables}(h0:∀ (t:TypeId) (i:TypeInfo) (v:Value),T.types[t]?=some i→i.zero=some v→VR F ρ v v):∀ (n:Nat) (t:TypeId) (i:TypeInfo) (v:Value),Made.infoAt T n t=some i→i.zero=some v→VR F ρ v v
 |0,t,i,v,h,hz=>by cases h
 |n+1,t,i,v,h,hz=>by
  unfold Made.infoAt at h
  split at h
  ·exact h0 t i v h hz
  ·simp only[Option.bind_eq_some_iff] at h
   obtain⟨d,_,h⟩:=h
   exact vz_reckon (vz_at h0 n) h hz
theorem zs_of{P:Program}(h0:∀ (t:TypeId) (i:TypeInfo) (v:Value),P.types[t]?=some i→i.zero=some v→∀ ρ,VR F ρ v v):Zs F P:=⟨fun t i v h hz ρ=>by
 unfold Tables.info? at h
 split at h
 ·exact h0 t i v h hz ρ
 ·exact vz_at (fun t i v h hz=>h0 t i v h hz ρ) _ t i v h hz⟩
end
section
open Go.Extern Go.Extern.Bytes
variable {F:Nat→Prop}{P:Program}{g:Bool}{ρ:Bij}
theorem za4:∀ (n:Nat) {a a':Addr} (_:DR ρ a a') (acc:ByteArray),SR F P eqR g ρ (Bytes.loadBytes a n acc) (Bytes.loadBytes a' n acc)
 |0,_,_,_,_=>zb rfl
 |n+1,a,a',h,acc=>by
  unfold Bytes.loadBytes
  refine SR.bind (zf6 h) fun v v' hv=>?_
  cases hv with
  |int k m=>
   cases k<;>first|exact za|exact za4 n (by cases h with|mk o s hh=>cases s<;>exact .mk _ _ hh) _
  |_=>exact za
theorem z9p{v v':Value}(h:VR F ρ v v'):SR F P eqR g ρ (bytesOf v) (bytesOf v'):=by
 cases h with
 |string s=>exact zb rfl
 |nilsl l k=>exact zb rfl
 |sl o s l k hr=>exact za4 _ (.mk o s hr) _
 |slE a a'=>exact zb rfl
 |_=>exact za
theorem sr_asByte{v v':Value}(h:VR F ρ v v'):SR F P eqR g ρ (asByte v) (asByte v'):=by
 cases h with
 |int k n=>cases k<;>first|exact zb rfl|exact za
 |_=>exact za
theorem args2{xs xs':Array Value}(h:AR F ρ xs xs'):(∃ a a' b b',xs=#[a,b]∧xs'=#[a',b']∧VR F ρ a a'∧VR F ρ b b')∨∀ a b,xs≠#[a,b]:=by
 rcases xs with⟨l⟩
 rcases xs' with⟨l'⟩
 have hs:=h.size
 match l,l' with
 | [a,b],[a',b']=>exact .inl ⟨a,a',b,b',rfl,rfl,h.at_ 0 a a' rfl rfl,h.at_ 1 b b' rfl rfl⟩
 | [],l'=>exact .inr fun a b e=>by simp at e
 | [_],l'=>exact .inr fun a b e=>by simp at e
 |_::_::_::_,l'=>exact .inr fun a b e=>by simp at e
 | [_,_],[]=>simp at hs
 | [_,_],[_]=>simp at hs
 | [_,_],_::_::_::_=>simp at hs
theorem sr_count{xs xs':Array Value}(h:AR F ρ xs xs'):SR F P (vR F) true ρ (BytealgCount.count xs) (BytealgCount.count xs'):=by
 rcases args2 h with⟨a,a',b,b',rfl,rfl,ha,hb⟩|hn
 ·exact z25 (z9p ha) fun x=>z25 (sr_asByte hb) fun c=>zb (.int _ _)
 ·have e:BytealgCount.count xs=stuck "bytealg.Count: two arguments expected" := by
   rcases xs with⟨_|⟨a,_|⟨b,_|⟨c,l⟩⟩⟩⟩<;>first|rfl|exact absurd rfl (hn _ _)
  rw[e]
  exact za
theorem sr_indexByte{xs xs':Array Value}(h:AR F ρ xs xs'):SR F P (vR F) true ρ (BytealgIndexByte.indexByte xs) (BytealgIndexByte.indexByte xs'):=by
 rcases args2 h with⟨a,a',b,b',rfl,rfl,ha,hb⟩|hn
 ·refine z25 (z9p ha) fun x=>z25 (sr_asByte hb) fun c=>?_
  split<;>exact zb (.int _ _)
 ·have e:BytealgIndexByte.indexByte xs=stuck "bytealg.IndexByte: two arguments expected" := by
   rcases xs with⟨_|⟨a,_|⟨b,_|⟨c,l⟩⟩⟩⟩<;>first|rfl|exact absurd rfl (hn _ _)
  rw[e]
  exact za
theorem sr_maxLen{k:Nat}(hg:P.globals.findIdx? (·.name == "internal/bytealg.MaxLen")=some k)(hk:ρ k k):SR F P eqR g ρ BytealgIndex.maxLen BytealgIndex.maxLen:=by
 unfold BytealgIndex.maxLen globalAddr
 refine SR.bind (R:=dR) (z1i ?_) fun a a' ha=>SR.bind (zf6 ha) fun v v' hv=>z8i hv
 rw[hg]
 exact zb (.mk 0 none hk)
theorem sr_indexS{k:Nat}(hg:P.globals.findIdx? (·.name == "internal/bytealg.MaxLen")=some k)(hk:ρ k k){xs xs':Array Value}(h:AR F ρ xs xs'):SR F P (vR F) true ρ (BytealgIndex.index xs) (BytealgIndex.index xs'):=by
 rcases args2 h with⟨a,a',b,b',rfl,rfl,ha,hb⟩|hn
 ·refine z25 (z9p ha) fun x=>z25 (z9p hb) fun c=>?_
  refine z25 (sr_maxLen hg hk) fun m=>?_
  refine zy (fun _=>z5f (by simp)) fun _=>zy (fun _=>z5f (by simp)) fun _=>?_
  split<;>exact zb (.int _ _)
 ·have e:BytealgIndex.index xs=stuck "bytealg.Index: two arguments expected" := by
   rcases xs with⟨_|⟨a,_|⟨b,_|⟨c,l⟩⟩⟩⟩<;>first|rfl|exact absurd rfl (hn _ _)
  rw[e]
  exact za
end
end Go.Mn
