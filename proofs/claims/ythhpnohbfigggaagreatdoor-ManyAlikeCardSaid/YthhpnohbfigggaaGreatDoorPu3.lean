/- The plain law: what is written is what is read: the accounts are what the records tell. -/
import Derived.Test.YthhpnohbfigggaaGreatDoorMwModels
import Derived.Test.YthhpnohbfigggaaGreatDoorPu1
import Derived.Test.YthhpnohbfigggaaGreatDoorPu2
import Derived.KernelRfl
set_option linter.all false
namespace Go.Pu
open Go.Fw Go.Mo
inductive Op where
 |o (s:Bs)(n:Int)
 |d (x:Deal)(t:Bs)
instance : Inhabited Op := ⟨.o [] 0⟩
def z5r:Op→List Bs
 |.o s n=>[[111],s,Lib.itoa n]
 |.d x t=>[[100],x.1,x.2.1,Lib.itoa x.2.2.1,Lib.itoa x.2.2.2.1,Lib.itoa x.2.2.2.2.1,Lib.itoa x.2.2.2.2.2,t]
def recO(p:Op):Bs:=zai (z5r p)
def zak:Op→Prop
 |.o s n=>za0 s∧nm s=true∧0≤n∧n≤1000000
 |.d x t=>z4p x∧za0 t∧nm t=true∧rt x=0
def StepO(l:List Acct):Op→List Acct→Prop
 |.o s n,m=>z2r l s n=some (m,0)
 |.d x t,m=>z1k l x t=some (m,0)
inductive Runs:List Acct→List Op→List Acct→Prop
 |nil (l:List Acct):Runs l [] l
 |cons {l m k:List Acct} {p:Op} {ps:List Op} (hr:zak p) (hs:StepO l p m) (h:Runs m ps k):Runs l (p::ps) k
theorem StepO.det{l m k:List Acct}{p:Op}(h1:StepO l p m)(h2:StepO l p k):m=k:=by
 cases p with
 |o s n=>have:=h1.symm.trans h2;cases this;rfl
 |d x t=>have:=h1.symm.trans h2;cases this;rfl
theorem Runs.det{l m k:List Acct}{ps:List Op}(h1:Runs l ps m)(h2:Runs l ps k):m=k:=by
 induction h1 with
 |nil l=>cases h2;rfl
 |cons hr hs h ih=>cases h2 with|cons hr2 hs2 h2=>have:=hs.det hs2;subst this;exact ih h2
theorem Runs.append{l m k:List Acct}{ps qs:List Op}(h1:Runs l ps m)(h2:Runs m qs k):Runs l (ps++qs) k:=by
 induction h1 with
 |nil l=>exact h2
 |cons hr hs h ih=>exact .cons hr hs (ih h2)
theorem Runs.split{l k:List Acct}:∀ {ps qs:List Op},Runs l (ps++qs) k→∃ m,Runs l ps m∧Runs m qs k:=by
 intro ps
 induction ps generalizing l with
 |nil=>intro qs h;exact⟨l,.nil l,h⟩
 |cons p ps ih=>
  intro qs h
  cases h with
  |cons hr hs h=>obtain⟨m,h1,h2⟩:=ih h;exact⟨m,.cons hr hs h1,h2⟩
theorem zbv{l m:List Acct}{s:Bs}{n:Int}(hs:z4q l)(hsh:za0 s)(h:z2r l s n=some (m,0)):z3w l∧0≤n∧n≤1000000∧m.Perm (l++[(s,n,0)])∧z3w m∧z4q m∧nm s=true:=by
 obtain⟨p,e,hp⟩:=open_ok (n:=n) hs hsh
 rw[h] at e;cases e
 cases hp with
 |no e he=>exact absurd rfl he
 |yes _ hA h0 h1 hm hA2=>
  refine⟨hA,h0,h1,hm,hA2,fun a ha=>?_,hA2.name (s,n,0) (hm.mem_iff.2 (by simp))⟩
  rcases List.mem_append.1 (hm.mem_iff.1 ha) with h|h
  ·exact hs a h
  ·rw[List.mem_singleton] at h;subst h;exact hsh
theorem took_facts{l m:List Acct}{x:Deal}{t:Bs}(hs:z4q l)(hd:z4p x)(h:z1k l x t=some (m,0)):∃ i j k,z3w l∧rt x=0∧i<l.length∧j<l.length∧k<l.length∧(nth l k).1=t∧Moved l i j k x.2.2.2.1 x.2.2.2.2.1 m∧z3w m∧z4q m:=by
 obtain⟨p,e,hp⟩:=take_ok (t:=t) hs hd
 rw[h] at e;cases e
 cases hp with
 |no e he=>exact absurd rfl he
 |yes i j k _ hA hr hi hj hk _ _ et _ _ hm hA2=>exact⟨i,j,k,hA,hr,hi,hj,hk,et,hm,hA2,hm.short hs⟩
theorem StepO.accts{l m:List Acct}{p:Op}(hs:z4q l)(hr:zak p)(h:StepO l p m):z3w m∧z4q m:=by
 cases p with
 |o s n=>obtain⟨_,_,_,_,a,b,_⟩:=zbv hs hr.1 h;exact⟨a,b⟩
 |d x t=>obtain⟨i,j,k,_,_,_,_,_,_,_,a,b⟩:=took_facts hs hr.1 h;exact⟨a,b⟩
theorem accts_nil:z3w []:=⟨by simp,fun a h=>by simp at h,fun k h=>by simp at h,fun a h=>by simp at h⟩
theorem Runs.accts{l m:List Acct}{ps:List Op}(h:Runs l ps m)(hA:z3w l)(hs:z4q l):z3w m∧z4q m:=by
 induction h with
 |nil l=>exact⟨hA,hs⟩
 |cons hr hst h ih=>obtain⟨a,b⟩:=hst.accts hs hr;exact ih a b
theorem Runs.accts0{m:List Acct}{ps:List Op}(h:Runs [] ps m):z3w m∧z4q m:=h.accts accts_nil (fun a h=>by simp at h)
theorem Runs.right{l m:List Acct}{ps:List Op}(h:Runs l ps m):∀ p∈ps,zak p:=by
 induction h with
 |nil l=>intro p hp;simp at hp
 |cons hr hst h ih=>
  intro p hp
  rcases List.mem_cons.1 hp with rfl|hp
  ·exact hr
  ·exact ih p hp
theorem zb6{p:Op}(h:zak p):(recO p).length≤64∧1≤(recO p).length:=by
 cases p with
 |o s n=>
  obtain⟨h1,h2,h3,h4⟩:=h
  have:=z6p h1 h2;have:=z60 h3 h4
  simp only[recO,z5r,zai,List.length_append,List.length_cons,List.length_nil];omega
 |d x t=>
  obtain⟨h1,h2,h3,h4⟩:=h
  obtain⟨r1,r2,r3,r4,r5,r6,_⟩:=z8j h1 h4
  have:=z6p h2 h3;have:=z6p h1.1 r5;have:=z6p h1.2 r6
  have:=z60 r1.1 r1.2;have:=z60 r2.1 r2.2;have:=z60 r3.1 r3.2;have:=itoa_len3 (by omega) r4.2
  simp only[recO,z5r,zai,List.length_append,List.length_cons,List.length_nil];omega
theorem rec_words{p:Op}(h:zak p):z4i (recO p) [32]=some (z5r p):=by
 have hl:=zb6 h
 unfold z4i
 rw[z3f ⟨by omega,by simp⟩,Option.bind_some]
 unfold recO
 cases p with
 |o s n=>
  obtain⟨h1,h2,h3,h4⟩:=h
  rw[zd9 (by simp[z5r])]
  intro w hw
  simp only[z5r,List.mem_cons,List.not_mem_nil,or_false] at hw
  rcases hw with rfl|rfl|rfl
  ·decide
  ·exact nm_no h1 h2
  ·exact zcr h3
 |d x t=>
  obtain⟨h1,h2,h3,h4⟩:=h
  obtain⟨r1,r2,r3,r4,r5,r6,_⟩:=z8j h1 h4
  rw[zd9 (by simp[z5r])]
  intro w hw
  simp only[z5r,List.mem_cons,List.not_mem_nil,or_false] at hw
  rcases hw with rfl|rfl|rfl|rfl|rfl|rfl|rfl|rfl
  ·decide
  ·exact nm_no h1.1 r5
  ·exact nm_no h1.2 r6
  ·exact zcr r1.1
  ·exact zcr r2.1
  ·exact zcr r3.1
  ·exact zcr (by omega)
  ·exact nm_no h2 h3
theorem read_four{w:List Bs}{a b c d:Int}(h3:idx w 3=some (Lib.itoa a))(h4:idx w 4=some (Lib.itoa b))(h5:idx w 5=some (Lib.itoa c))(h6:idx w 6=some (Lib.itoa d))
  (ha:0≤a∧a≤1000000)(hb:0≤b∧b≤1000000)(hc:0≤c∧c≤1000000)(hd:0≤d∧d≤1000000) :
  z40 (γ:=List Acct) (z12 w) 1048576 (List.replicate 4 (0:Int),(0:Int))=some (.nx ([a,b,c,d],4)):=by
 have s0:z12 w (List.replicate 4 (0:Int),(0:Int))=some (.nx ([a,0,0,0],1)):=by
  unfold z12;dsimp only
  rw[if_pos (by decide),show wadd 3 0=3 by decide,h3,Option.bind_some,atoi_m ha.1 ha.2];rfl
 have s1:z12 w ([a,0,0,0],(1:Int))=some (.nx ([a,b,0,0],2)):=by
  unfold z12;dsimp only
  rw[if_pos (by decide),show wadd 3 1=4 by decide,h4,Option.bind_some,atoi_m hb.1 hb.2];rfl
 have s2:z12 w ([a,b,0,0],(2:Int))=some (.nx ([a,b,c,0],3)):=by
  unfold z12;dsimp only
  rw[if_pos (by decide),show wadd 3 2=5 by decide,h5,Option.bind_some,atoi_m hc.1 hc.2];rfl
 have s3:z12 w ([a,b,c,0],(3:Int))=some (.nx ([a,b,c,d],4)):=by
  unfold z12;dsimp only
  rw[if_pos (by decide),show wadd 3 3=6 by decide,h6,Option.bind_some,atoi_m hd.1 hd.2];rfl
 have s4:z12 w ([a,b,c,d],(4:Int))=some (.br ([a,b,c,d],4)):=by
  unfold z12;dsimp only
  rw[if_neg (by decide)]
 rw[show(1048576:Nat)=1048571+1+1+1+1+1 from rfl]
 simp only[z40,s0,s1,s2,s3,s4]
theorem read_step{rs:List Bs}{i:Nat}{p:Op}{l m:List Acct}(hi:rs[i]?=some (recO p))(hr:zak p)(h:StepO l p m):z2z rs i l=some (.nx m):=by
 unfold z2z
 rw[idx_nat,hi,Option.bind_some,rec_words hr,Option.bind_some]
 cases p with
 |o s n=>
  obtain⟨h1,h2,h3,h4⟩:=hr
  rw[show idx (z5r (.o s n)) 0=some [111] from rfl,Option.bind_some,if_pos (by decide),show idx (z5r (.o s n)) 2=some (Lib.itoa n) from rfl,Option.bind_some,atoi_m h3 h4,Option.bind_some,show idx (z5r (.o s n)) 1=some s from rfl,Option.bind_some,show z2r l s n=some (m,0) from h,Option.bind_some]
 |d x t=>
  obtain⟨h1,h2,h3,h4⟩:=hr
  obtain⟨r1,r2,r3,r4,r5,r6,_⟩:=z8j h1 h4
  rw[show idx (z5r (.d x t)) 0=some [100] from rfl,Option.bind_some,if_neg (by decide),read_four (w:=z5r (.d x t)) (a:=x.2.2.1) (b:=x.2.2.2.1) (c:=x.2.2.2.2.1) (d:=x.2.2.2.2.2) rfl rfl rfl rfl r1 r2 r3 (by omega)]
  rw[z5e]
  dsimp only
  rw[show idx (z5r (.d x t)) 1=some x.1 from rfl,Option.bind_some,show idx (z5r (.d x t)) 2=some x.2.1 from rfl,Option.bind_some,show idx (z5r (.d x t)) 7=some t from rfl,Option.bind_some]
  rw[show idx [x.2.2.1,x.2.2.2.1,x.2.2.2.2.1,x.2.2.2.2.2] 0=some x.2.2.1 from rfl,Option.bind_some,show idx [x.2.2.1,x.2.2.2.1,x.2.2.2.2.1,x.2.2.2.2.2] 1=some x.2.2.2.1 from rfl,Option.bind_some,show idx [x.2.2.1,x.2.2.2.1,x.2.2.2.2.1,x.2.2.2.2.2] 2=some x.2.2.2.2.1 from rfl,Option.bind_some,show idx [x.2.2.1,x.2.2.2.1,x.2.2.2.2.1,x.2.2.2.2.2] 3=some x.2.2.2.2.2 from rfl,Option.bind_some]
  rw[show z1k l (x.1,x.2.1,x.2.2.1,x.2.2.2.1,x.2.2.2.2.1,x.2.2.2.2.2) t=some (m,0) from h,Option.bind_some]
abbrev Hs:=List Acct×List Deal×List UInt8×Int
theorem read_ok{h:Hs}{ps:List Op}{fin:List Acct}(hd:h.2.2.1=cat (ps.map recO))(hlen:(cat (ps.map recO)).length≤4000)(hr:Runs [] ps fin):z3a h=some (fin,[],h.2.2):=by
 obtain⟨ac,of,dk,sf⟩:=h
 dsimp only at hd;subst hd
 have hright:=hr.right
 have hall:=all_ok (ps.map recO) sf (fun r h=>by obtain⟨p,hp,rfl⟩:=List.mem_map.1 h;exact(zb6 (hright p hp)).1) hlen
 unfold z3a
 dsimp only
 rw[hall,Option.bind_some]
 refine Ok.eq ?_
 rw[z22]
 refine zcz (fun k l=>Runs [] (ps.take k) l) (.nil []) (fun k l hk hI=>?_) fun l hl=>?_
 ·rw[List.length_map] at hk
  have e:ps=ps.take k++(ps[k]::ps.drop (k+1)):=by rw[← List.drop_eq_getElem_cons hk,List.take_append_drop]
  rw[e] at hr
  obtain⟨m,h1,h2⟩:=hr.split
  have:=h1.det hI;subst this
  cases h2 with
  |cons hrr hs h2=>
   rw[read_step (p:=ps[k]) (by rw[List.getElem?_map,List.getElem?_eq_getElem hk];rfl) hrr hs,zg,z1j,List.take_succ_eq_append_getElem hk]
   exact h1.append (.cons hrr hs (.nil _))
 ·rw[List.length_map,List.take_length] at hl
  have:=hl.det hr;subst this
  rw[zg]
abbrev Dd:=Int×Int×List UInt8×Deal
structure Inv(h:Hs)(ps:List Op)(s:Nat):Prop where
 run:Runs [] ps h.1
 disk:h.2.2.1=cat (ps.map recO)
 safe:h.2.2.2=((cat ((ps.map recO).take s)).length:Int)
 sle:s≤ps.length
 len:(cat (ps.map recO)).length≤4000
 queue:z6m h.2.1
 short:∀ d∈h.2.1,z4p d
inductive Did(h:Hs)(ps:List Op)(s:Nat)(d:Dd):(Int×Int)×Int×Hs→Prop
 |no (e:Int):e≠0→Did h ps s d ((0,0),e,h)
 |opened (h':Hs):d.1=1→Inv h' (ps++[.o d.2.2.1 d.2.1]) s→Did h ps s d ((0,0),0,h')
 |kept (t:Int×Int) (h':Hs) (qs:List Op) (s':Nat):d.1≠1→d.1≠5→s≤s'→(∀ q∈qs,∃ x t,q=.d x t)→Inv h' (ps++qs) s'→(d.1=4→s'=ps.length∧qs=[])→Did h ps s d (t,0,h')
 |crashed (h':Hs) (w:Nat):d.1=5→s≤w→w≤ps.length→Inv h' (ps.take w) w→h'.2.1=[]→Did h ps s d ((0,0),0,h')
theorem inv_new:∃ h,z7k=some h∧Inv h [] 0:=⟨([],[],[],0),rfl,⟨.nil _,rfl,rfl,Nat.le_refl _,by simp[cat],⟨by simp,fun d h=>by simp at h,fun i j _ h=>by simp at h⟩,fun d h=>by simp at h⟩⟩
theorem zbf{l:List Acct}{ps:List Op}{m:List Acct}(h:Runs l ps m):∀ r∈ps.map recO,r.length≤64:=fun r hr=>by
 obtain⟨p,hp,rfl⟩:=List.mem_map.1 hr
 exact(zb6 (h.right p hp)).1
theorem cat_le:∀ l:List Bs,(∀ r∈l,r.length≤64)→(cat l).length≤67*l.length
 | [],_=>by simp[cat]
 |r::l,h=>by
  have:=cat_le l fun x hx=>h x (by simp[hx])
  have:=h r (by simp)
  rw[cat,List.length_append,z4t,List.length_cons];omega
theorem z9h{ps qs:List Op}{s:Nat}(h:s≤ps.length):((ps++qs).map recO).take s=(ps.map recO).take s:=by
 rw[List.map_append,List.take_append_of_le_length (by rw[List.length_map];exact h)]
theorem open_did{h:Hs}{ps:List Op}{s:Nat}{d:Dd}(hI:Inv h ps s)(hsh:za0 d.2.2.1):∃ e h',z3b h d=some (e,h')∧((e≠0∧h'=h)∨(e=0∧Inv h' (ps++[.o d.2.2.1 d.2.1]) s)):=by
 obtain⟨ac,of,dk,sf⟩:=h
 obtain⟨hrun,hdk,hsf,hsl,hlen,hq,hso⟩:=hI
 dsimp only at hrun hdk hsf hq hso
 subst hdk
 have hsA:=hrun.accts0.2
 obtain⟨p,e1,hp⟩:=open_ok (n:=d.2.1) hsA hsh
 unfold z3b
 dsimp only
 rw[e1,Option.bind_some]
 cases hp with
 |no e he=>rw[if_pos (by rw[bne_iff_ne];exact he)];exact⟨e,_,rfl,.inl ⟨he,rfl⟩⟩
 |yes m hA h0 h1 hm hA2=>
  obtain⟨_,_,_,_,_,hsm,hnm⟩:=zbv hsA hsh e1
  have hR:zak (.o d.2.2.1 d.2.1):=⟨hsh,hnm,h0,h1⟩
  have hrl:=zb6 hR
  have hll:=z6p hsh hnm
  have hil:=z60 h0 h1
  rw[if_neg (by simp),z3f (by simp only[List.length_cons,List.length_nil];omega),Option.bind_some,z3f (by simp only[List.length_append,List.length_cons,List.length_nil];omega),Option.bind_some,itoa_m h0 h1,Option.bind_some,z3f (by simp only[List.length_append,List.length_cons,List.length_nil];omega),Option.bind_some]
  have er:(([111,32]:List UInt8)++d.2.2.1)++[32]++Lib.itoa d.2.1=recO (.o d.2.2.1 d.2.1):=by simp[recO,z5r,zai]
  rw[er,append_ok _ _ _ hlen,if_pos hrl.1]
  by_cases hf:(cat (ps.map recO)).length+((recO (.o d.2.2.1 d.2.1)).length+3)≤4000
  ·rw[if_pos hf,Option.bind_some,if_neg (by simp)]
   have ec:cat (ps.map recO++[recO (.o d.2.2.1 d.2.1)])=cat ((ps++[Op.o d.2.2.1 d.2.1]).map recO):=by simp
   refine⟨0,_,rfl,.inr ⟨rfl,⟨hrun.append (.cons hR e1 (.nil _)),ec,?_,?_,?_,hq,hso⟩⟩⟩
   ·dsimp only;rw[z9h hsl,hsf]
   ·rw[List.length_append];omega
   ·rw[← ec,zcd,List.length_append,z4t];exact hf
  ·rw[if_neg hf,Option.bind_some,if_pos (by simp)]
   exact⟨8,_,rfl,.inl ⟨by decide,rfl⟩⟩
theorem deal_rec{x:Deal}{t:Bs}(hR:zak (.d x t)):z6d x t=some (recO (.d x t)):=by
 obtain⟨h1,h2,h3,h4⟩:=hR
 obtain⟨r1,r2,r3,r4,r5,r6,_⟩:=z8j h1 h4
 have a1:=z6p h2 h3;have a2:=z6p h1.1 r5;have a3:=z6p h1.2 r6
 have b1:=z60 r1.1 r1.2;have b2:=z60 r2.1 r2.2;have b3:=z60 r3.1 r3.2;have b4:=itoa_len3 (by omega) r4.2
 have st:∀ (i:Nat) (n:Int) (y:Bs),[x.2.2.1,x.2.2.2.1,x.2.2.2.2.1,x.2.2.2.2.2][i]?=some n→0≤n→n≤1000000→y.length≤1000→z5p x i y=some (.nx (y++([32]++Lib.itoa n))):=fun i n y hi h0 h1 hy=>by
  have:=z60 h0 h1
  unfold z5p
  rw[idx_nat,hi,Option.bind_some,itoa_m h0 h1,Option.bind_some,z3f (by simp only[List.length_cons,List.length_nil];omega),Option.bind_some,z3f (by simp only[List.length_append,List.length_cons,List.length_nil];omega),Option.bind_some]
 unfold z6d
 rw[z3f (by simp only[List.length_cons,List.length_nil];omega),Option.bind_some,z3f (by simp only[List.length_append,List.length_cons,List.length_nil];omega),Option.bind_some,z3f (by simp only[List.length_append,List.length_cons,List.length_nil];omega),Option.bind_some]
 rw[show[x.2.2.1,x.2.2.2.1,x.2.2.2.2.1,x.2.2.2.2.2].length=0+1+1+1+1 from rfl]
 simp only[z5s]
 rw[st 0 x.2.2.1 _ rfl r1.1 r1.2 (by simp only[List.length_append,List.length_cons,List.length_nil];omega)]
 dsimp only
 rw[st (0+1) x.2.2.2.1 _ rfl r2.1 r2.2 (by simp only[List.length_append,List.length_cons,List.length_nil];omega)]
 dsimp only
 rw[st (0+1+1) x.2.2.2.2.1 _ rfl r3.1 r3.2 (by simp only[List.length_append,List.length_cons,List.length_nil];omega)]
 dsimp only
 rw[st (0+1+1+1) x.2.2.2.2.2 _ rfl (by omega) (by omega) (by simp only[List.length_append,List.length_cons,List.length_nil];omega)]
 rw[z2f]
 try dsimp only
 rw[z3f (by simp only[List.length_append,List.length_cons,List.length_nil];omega),Option.bind_some,z3f (by simp only[List.length_append,List.length_cons,List.length_nil];omega),Option.bind_some]
 simp[recO,z5r,zai]
theorem find_acct(h:Hs)(s:Bs):z2j h s=some (if h.1.any (fun a=>a.1==s) then(h.1.findIdx (fun a=>a.1==s):Int) else -1):=by
 unfold z2j
 rw[indexA h.1 (fun a0=>z2o a0 s) (fun a=>a.1==s) (fun a=>rfl)];rfl
theorem zes{x0:List Deal}{l out:List Acct}{t:Bs}{room left:Int}{ks:List Int}(hq:∀ d∈x0,z4p d∧rt d=0)(ht:za0 t∧nm t=true)(hB:Built x0 l t room ks left out):∀ j,j≤ks.length→Runs l ((ks.take j).map fun k=>Op.d (nth x0 k.toNat) t) (runL x0 t l (ks.take j))
 |0,_=>.nil _
 |j+1,hj=>by
  have ih:=zes hq ht hB j (by omega)
  have hjl:j<ks.length:=by omega
  obtain⟨i0,i1⟩:=hB.idx j hjl
  obtain⟨e1,e2⟩:=hB.each j hjl
  have hm:nth x0 (nth ks j).toNat∈x0:=z7w (by omega)
  obtain⟨hd,hr⟩:=hq _ hm
  have htk:=(tk_ok (t:=t) e1 hd).1
  rw[List.take_succ_eq_append_getElem hjl,← z41 hjl,List.map_append]
  have:runL x0 t l (ks.take j++[nth ks j])=(tk (runL x0 t l (ks.take j)) (nth x0 (nth ks j).toNat) t).1:=by unfold runL;rw[List.foldl_append];rfl
  rw[this]
  refine ih.append (.cons ⟨hd,ht.1,ht.2,hr⟩ ?_ (.nil _))
  show z1k _ _ _=_
  rw[htk,← e2]
theorem build_did{h:Hs}{ps:List Op}{s:Nat}{d:Dd}(hI:Inv h ps s)(hsh:za0 d.2.2.1):∃ t e h',z30 h d=some (t,e,h')∧((e≠0∧h'=h∧t=(0,0))∨(e=0∧∃ qs:List Op,(∀ q∈qs,∃ x t,q=Op.d x t)∧Inv h' (ps++qs) s)):=by
 obtain⟨ac,of,dk,sf⟩:=h
 obtain⟨hrun,hdk,hsf,hsl,hlen,hq,hso⟩:=hI
 dsimp only at hrun hdk hsf hq hso
 subst hdk
 obtain⟨hA,hsA⟩:=hrun.accts0
 unfold z30
 dsimp only
 rw[find_acct,Option.bind_some]
 dsimp only
 by_cases hany:ac.any (fun a=>a.1==d.2.2.1)=true
 ·rw[if_pos hany,if_neg (by rw[decide_eq_true_eq];omega)]
  have hnm:nm d.2.2.1=true:=by
   obtain⟨a,ha,e⟩:=List.any_eq_true.1 hany
   rw[beq_iff_eq] at e
   rw[← e];exact hA.name a ha
  obtain⟨p,e1,hp⟩:=build_ok (t:=d.2.2.1) (room:=d.2.1) hso hsA
  obtain⟨ks,out,er⟩:=p
  rw[e1,Option.bind_some]
  dsimp only at hp ⊢
  rcases hp with⟨he,_,_⟩|⟨he,_,hr0,hr1,left,hB,_⟩
  ·rw[if_pos (by rw[bne_iff_ne];exact he)]
   exact⟨_,er,_,rfl,.inl ⟨he,rfl,rfl⟩⟩
  ·subst he
   rw[if_neg (by decide),show z64 (cat (ps.map recO),sf)=some (((cat (ps.map recO)).length:Int),sf) from rfl,Option.bind_some]
   dsimp only
   have hkl:ks.length≤1000:=by have:=hB.len;have:=hB.lo;omega
   have hruns:=zes (fun x hx=>⟨hso x hx,hq.right x hx⟩) ⟨hsh,hnm⟩ hB ks.length (Nat.le_refl _)
   rw[List.take_length,← hB.run] at hruns
   have hright:∀ j,j<ks.length→zak (.d (nth of (nth ks j).toNat) d.2.2.1):=fun j hj=>hruns.right _ (List.mem_map.2 ⟨nth ks j,z7w hj,rfl⟩)
   generalize hqs:(ks.map fun k=>Op.d (nth of k.toNat) d.2.2.1)=qs at hruns
   have hql:qs.length=ks.length:=by rw[← hqs,List.length_map]
   have hqrec:=zbf hruns
   have hprec:=zbf hrun
   have hqn:∀ j,j<ks.length→qs[j]?=some (.d (nth of (nth ks j).toNat) d.2.2.1):=fun j hj=>by rw[← hqs,List.getElem?_map,z4o hj];rfl
   have htot:=cat_le ((ps++qs).map recO) (fun r hr=>by rw[List.map_append] at hr;rcases List.mem_append.1 hr with h|h;exact hprec r h;exact hqrec r h)
   have hpl:=cat_len (ps.map recO)
   rw[List.length_map] at hpl
   have key:Ok (z2f (ρ:=(Int×Int)×Int×Hs) (β:=Unit) (σ:=(List (List UInt8))×Int×Int) (z5s (γ:=Unit) (z2q (ks,out,0) (ac,of,cat (ps.map recO),sf) d) ks.length 0 ([],((cat (ps.map recO)).length:Int),(0:Int))) fun(l35,x37,x38)=>(if decide (x37>(4000:Int)) then some ((((0:Int),(0:Int)):(Int×Int)),(8:Int),(ac,of,cat (ps.map recO),sf)) else z2f (ρ:=(Int×Int)×Int×Hs) (β:=Unit) (σ:=Hs) (z5s (γ:=Unit) (z2p l35) (l35).length 0 (ac,of,cat (ps.map recO),sf)) fun l132=>(z4m l132.2.1 out).bind fun y175=>some (((((ks).length:Int),x38):(Int×Int)),(0:Int),(out,y175.1,l132.2.2)))) (fun r=>(r.2.1≠0∧r.2.2=(ac,of,cat (ps.map recO),sf)∧r.1=(0,0))∨(r.2.1=0∧Inv r.2.2 (ps++qs) s)):=by
    rw[z22]
    refine zcz (fun k (u:List Bs×Int×Int)=>u.1=(qs.map recO).take k∧u.2.1=((cat (ps.map recO++(qs.map recO).take k)).length:Int)) ⟨by simp,by simp⟩ (fun k u hk hu=>?_) fun u hu=>?_
    ·obtain⟨l35,x37,x38⟩:=u
     obtain⟨u1,u2⟩:=hu
     dsimp only at u1 u2
     obtain⟨i0,i1⟩:=hB.idx k hk
     have hRk:=hright k hk
     have htk:(qs.map recO).take (k+1)=(qs.map recO).take k++[recO (.d (nth of (nth ks k).toNat) d.2.2.1)]:=by
      have hk':k<(qs.map recO).length:=by rw[List.length_map,hql];exact hk
      rw[List.take_succ,List.getElem?_map,hqn k hk];rfl
     have hrl:=(zb6 hRk).1
     have hlk:((qs.map recO).take k).length≤1000:=by rw[List.length_take];omega
     have hcl:=cat_le (ps.map recO++(qs.map recO).take k) (fun r hr=>by rcases List.mem_append.1 hr with h|h;exact hprec r h;exact hqrec r (List.mem_of_mem_take h))
     rw[List.length_append,List.length_map] at hcl
     unfold z2q
     dsimp only
     rw[idx_nat,z4o hk,Option.bind_some]
     have hix:idx of (nth ks k)=some (nth of (nth ks k).toNat):=by rw[idx_at i0,z4o (by omega)]
     rw[hix,Option.bind_some,deal_rec hRk,Option.bind_some,z3f (by rw[u1];simp only[List.length_cons,List.length_nil];omega),Option.bind_some,Option.bind_some,zg,z1j]
     refine⟨by dsimp only;rw[u1,htk],?_⟩
     dsimp only
     rw[htk,← List.append_assoc,zcd,List.length_append,z4t,u2,z2l (x:=((recO (Op.d (nth of (nth ks k).toNat) d.2.2.1)).length:Int)) (by omega) (by omega),z2l (by omega) (by omega)]
     omega
    ·obtain⟨l35,x37,x38⟩:=u
     obtain⟨u1,u2⟩:=hu
     dsimp only at u1 u2 ⊢
     rw[← hql,show(qs.map recO).take qs.length=qs.map recO by rw[← List.length_map (f:=recO),List.take_length]] at u1 u2
     rw[← List.map_append] at u2
     subst u1
     by_cases hbig:x37>4000
     ·rw[if_pos (by rw[decide_eq_true_eq];exact hbig),zg]
      exact .inl ⟨by simp,rfl,rfl⟩
     ·rw[if_neg (by rw[decide_eq_true_eq];exact hbig),z22]
      have hlen2:(cat ((ps++qs).map recO)).length≤4000:=by omega
      refine zcz (fun k (u:Hs)=>u=(ac,of,cat (ps.map recO++(qs.map recO).take k),sf)) (by simp) (fun k u hk hu=>?_) fun u hu=>?_
      ·subst hu
       rw[List.length_map] at hk
       have hk2:k<ks.length:=by omega
       have hRk:=hright k hk2
       have htk:(qs.map recO).take (k+1)=(qs.map recO).take k++[recO (.d (nth of (nth ks k).toNat) d.2.2.1)]:=by
        rw[List.take_succ,List.getElem?_map,hqn k hk2];rfl
       have hcl:(cat (ps.map recO++(qs.map recO).take (k+1))).length≤4000:=by
        have:=z8t ((ps++qs).map recO) ((ps.map recO).length+(k+1))
        rw[List.map_append,List.take_length_add_append] at this
        rw[List.map_append] at hlen2
        omega
       rw[htk,← List.append_assoc,zcd,List.length_append,z4t] at hcl
       unfold z2p
       dsimp only
       rw[idx_nat,List.getElem?_map,hqn k hk2,Option.map_some,Option.bind_some,append_ok _ _ _ (by omega),if_pos (zb6 hRk).1,if_pos hcl,Option.bind_some,zg,z1j]
       rw[htk,List.append_assoc]
      ·rw[List.length_map,show(qs.map recO).take qs.length=qs.map recO by rw[← List.length_map (f:=recO),List.take_length],← List.map_append] at hu
       subst hu
       dsimp only
       obtain⟨p,ep,hp⟩:=clean_ok (accts:=out) hso (check_some hB.short)
       rw[ep,Option.bind_some,zg]
       refine .inr ⟨rfl,hrun.append hruns,rfl,?_,?_,hlen2,?_,?_⟩
       ·dsimp only;rw[z9h hsl,hsf]
       ·rw[List.length_append];omega
       ·rcases hp with⟨e,_⟩|⟨e,_,_⟩
        ·dsimp only;rw[e];exact⟨by simp,fun d h=>by simp at h,fun i j _ h=>by simp at h⟩
        ·rw[e];exact hq.filter _
       ·rcases hp with⟨e,_⟩|⟨e,_,_⟩
        ·dsimp only;rw[e];intro d h;simp at h
        ·rw[e];intro x hx;exact hso x (List.mem_filter.1 hx).1
   obtain⟨r,e,hr⟩:=key
   refine⟨r.1,r.2.1,r.2.2,e,?_⟩
   rcases hr with hr|⟨h1,h2⟩
   ·exact .inl hr
   ·refine .inr ⟨h1,qs,fun q hq=>?_,h2⟩
    rw[← hqs] at hq
    obtain⟨k,_,rfl⟩:=List.mem_map.1 hq
    exact⟨_,_,rfl⟩
 ·rw[if_neg hany,if_pos (by decide)]
  exact⟨_,4,_,rfl,.inl ⟨by decide,rfl,rfl⟩⟩
def ShortDd(d:Dd):Prop:=za0 d.2.2.1∧z4p d.2.2.2
theorem drop_any{l:List Deal}{s:Bs}{n:Int}(hs:∀ d∈l,z4p d)(hQ:z6m l):∃ p,z6b l s n=some p∧(p.2≠0∨(p.2=0∧z6m p.1∧∀ d∈p.1,z4p d)):=by
 obtain⟨e,he,hq⟩:=zaw hs
 have h0:=hq.2 hQ
 subst h0
 have hlen:=hQ.len
 unfold z6b
 rw[he,Option.bind_some,if_neg (by decide),zcb,Option.bind_some]
 by_cases ha:l.any (fun d=>key d==(s,n))=true
 ·rw[if_pos ha]
  have hi:l.findIdx (fun d=>key d==(s,n))<l.length:=by
   obtain⟨i,hi,ei⟩:=zba.1 ha
   exact List.findIdx_lt_length_of_exists ⟨nth l i,z7w hi,by rw[beq_iff_eq];exact ei⟩
  generalize l.findIdx (fun d=>key d==(s,n))=i at hi
  rw[if_neg (by rw[decide_eq_true_eq];omega),cloneQ l (by omega),Option.bind_some,z2l (by omega) (by omega)]
  unfold z1y
  rw[z3f (by omega),Option.bind_some,Option.bind_some,Int.toNat_natCast,show((i:Int)+1).toNat=i+1 by omega]
  have hmem:∀ d∈l.take i++l.drop (i+1),d∈l:=fun d hd=>by
   rcases List.mem_append.1 hd with h|h
   ·exact List.mem_of_mem_take h
   ·exact List.mem_of_mem_drop h
  refine⟨_,rfl,.inr ⟨rfl,⟨?_,fun d hd=>hQ.right d (hmem d hd),fun a b hab hb=>?_⟩,fun d hd=>hs d (hmem d hd)⟩⟩
  ·simp only[List.length_append,List.length_take,List.length_drop];omega
  ·have hnth:∀ a,a<(l.take i++l.drop (i+1)).length→nth (l.take i++l.drop (i+1)) a=nth l (if a<i then a else a+1):=fun a ha=>by
    rw[z6y,List.length_take]
    by_cases h:a<i
    ·rw[if_pos (by omega),if_pos h,zaq h]
    ·rw[if_neg (by omega),if_neg h,nth_drop];congr 1;omega
   have hb':=hb
   simp only[List.length_append,List.length_take,List.length_drop] at hb'
   dsimp only at hb ⊢
   rw[hnth a (by omega),hnth b hb]
   refine hQ.once _ _ ?_ ?_
   ·split<;>split<;>omega
   ·split<;>omega
 ·rw[if_neg ha,if_pos (by decide)]
  exact⟨_,rfl,.inl (by simp)⟩
theorem do_ok{h:Hs}{ps:List Op}{s:Nat}{d:Dd}(hI:Inv h ps s)(hd:ShortDd d):∃ r,z3x h d=some r∧Did h ps s d r:=by
 have hI0:=hI
 obtain⟨ac,of,dk,sf⟩:=h
 obtain⟨hrun,hdk,hsf,hsl,hlen,hq,hso⟩:=hI
 dsimp only at hrun hdk hsf hq hso
 obtain⟨hA,hsA⟩:=hrun.accts0
 unfold z3x
 dsimp only
 by_cases k1:d.1=1
 ·rw[if_pos (by rw[beq_iff_eq];exact k1)]
  obtain⟨e,h',e1,hh⟩:=open_did hI0 hd.1
  rw[e1,Option.bind_some]
  rcases hh with⟨he,rfl⟩|⟨he,hh⟩
  ·exact⟨_,rfl,.no e he⟩
  ·subst he;exact⟨_,rfl,.opened h' k1 hh⟩
 rw[if_neg (by rw[beq_iff_eq];exact k1)]
 by_cases k2:d.1=2
 ·rw[if_pos (by rw[beq_iff_eq];exact k2)]
  obtain⟨p,e1,hp⟩:=add_ok hso hd.2
  rw[e1,Option.bind_some]
  by_cases he:p.2=0
  ·rw[if_neg (by rw[bne_iff_ne];exact fun h=>h he)]
   refine⟨_,rfl,.kept (0,0) (ac,p.1,dk,sf) [] s (by omega) (by omega) (Nat.le_refl _) (fun q hq=>by simp at hq) ?_ (by omega)⟩
   rw[List.append_nil]
   refine⟨hrun,hdk,hsf,hsl,hlen,hp.queue he,?_⟩
   dsimp only
   cases hp with
   |no e h=>exact absurd he h
   | «at» i _ _ hi _ _=>
    intro x hx
    rcases List.mem_or_eq_of_mem_set hx with h|rfl
    ·exact hso x h
    ·exact hd.2
   |end_ _ _ _ _=>
    intro x hx
    rcases List.mem_append.1 hx with h|h
    ·exact hso x h
    ·rw[List.mem_singleton] at h;subst h;exact hd.2
  ·rw[if_pos (by rw[bne_iff_ne];exact he)]
   exact⟨_,rfl,.no p.2 he⟩
 rw[if_neg (by rw[beq_iff_eq];exact k2)]
 by_cases k3:d.1=3
 ·rw[if_pos (by rw[beq_iff_eq];exact k3)]
  obtain⟨t,e,h',e1,hh⟩:=build_did hI0 hd.1
  rw[e1,Option.bind_some]
  rcases hh with⟨he,rfl,rfl⟩|⟨he,qs,hqs,hh⟩
  ·exact⟨_,rfl,.no e he⟩
  ·subst he;exact⟨_,rfl,.kept t h' qs s (by omega) (by omega) (Nat.le_refl _) hqs hh (by omega)⟩
 rw[if_neg (by rw[beq_iff_eq];exact k3)]
 by_cases k4:d.1=4
 ·rw[if_pos (by rw[beq_iff_eq];exact k4)]
  refine⟨_,rfl,.kept (0,0) (ac,of,dk,(dk.length:Int)) [] ps.length (by omega) (by omega) hsl (fun q hq=>by simp at hq) ?_ (fun _=>⟨rfl,rfl⟩)⟩
  rw[List.append_nil]
  refine⟨hrun,hdk,?_,Nat.le_refl _,hlen,hq,hso⟩
  dsimp only
  rw[← List.length_map (f:=recO),List.take_length,← hdk]
 rw[if_neg (by rw[beq_iff_eq];exact k4)]
 by_cases k5:d.1=5
 ·rw[if_pos (by rw[beq_iff_eq];exact k5)]
  have hc:=crash_ok (ps.map recO) s d.2.1 (zbf hrun) hlen (by rw[List.length_map];exact hsl)
  rw[← hsf,← hdk] at hc
  rcases hc with hc|⟨w,hw1,hw2,hc⟩
  ·rw[hc,Option.bind_some,if_pos (by simp)]
   exact⟨_,rfl,.no 1 (by decide)⟩
  ·rw[List.length_map] at hw2
   have hpw:ps=ps.take w++ps.drop w:=(List.take_append_drop w ps).symm
   have hr2:=hrun
   rw[hpw] at hr2
   obtain⟨m,hm,_⟩:=hr2.split
   have hlen2:(cat ((ps.take w).map recO)).length≤4000:=by
    rw[List.map_take];have:=z8t (ps.map recO) w;omega
   rw[hc,Option.bind_some,if_neg (by simp),read_ok (ps:=ps.take w) (fin:=m) (by dsimp only;rw[List.map_take]) hlen2 hm,Option.bind_some]
   refine⟨_,rfl,.crashed (m,[],cat ((ps.map recO).take w),_) w k5 hw1 hw2 ⟨hm,?_,?_,?_,hlen2,⟨by simp,fun d h=>by simp at h,fun i j _ h=>by simp at h⟩,fun d h=>by simp at h⟩ rfl⟩
   ·dsimp only;rw[List.map_take]
   ·dsimp only;rw[List.map_take,List.take_take,Nat.min_self]
   ·rw[List.length_take];omega
 rw[if_neg (by rw[beq_iff_eq];exact k5)]
 by_cases k6:d.1=6
 ·rw[if_pos (by rw[beq_iff_eq];exact k6),find_acct,Option.bind_some]
  dsimp only
  by_cases hany:ac.any (fun a=>a.1==d.2.2.1)=true
  ·have hi:ac.findIdx (fun a=>a.1==d.2.2.1)<ac.length:=by
    obtain⟨a,ha,e⟩:=List.any_eq_true.1 hany
    exact List.findIdx_lt_length_of_exists ⟨a,ha,e⟩
   rw[if_pos hany,if_neg (by rw[decide_eq_true_eq];omega),idx_nat,z4o hi,Option.bind_some,Option.bind_some]
   exact⟨_,rfl,.kept _ (ac,of,dk,sf) [] s (by omega) (by omega) (Nat.le_refl _) (fun q hq=>by simp at hq) (by rw[List.append_nil];exact hI0) (by omega)⟩
  ·rw[if_neg hany,if_pos (by decide)]
   exact⟨_,rfl,.no 4 (by decide)⟩
 rw[if_neg (by rw[beq_iff_eq];exact k6)]
 by_cases k7:d.1=7
 ·rw[if_pos (by rw[beq_iff_eq];exact k7)]
  obtain⟨p,e1,hp⟩:=drop_any (s:=d.2.2.1) (n:=d.2.1) hso hq
  rw[e1,Option.bind_some]
  rcases hp with he|⟨he,hQ,hS⟩
  ·rw[if_pos (by rw[bne_iff_ne];exact he)]
   exact⟨_,rfl,.no p.2 he⟩
  ·rw[if_neg (by rw[bne_iff_ne];exact fun h=>h he)]
   refine⟨_,rfl,.kept (0,0) (ac,p.1,dk,sf) [] s (by omega) (by omega) (Nat.le_refl _) (fun q hq=>by simp at hq) ?_ (by omega)⟩
   rw[List.append_nil]
   exact⟨hrun,hdk,hsf,hsl,hlen,hQ,hS⟩
 rw[if_neg (by rw[beq_iff_eq];exact k7)]
 exact⟨_,rfl,.no 1 (by decide)⟩
theorem Did.inv{h:Hs}{ps:List Op}{s:Nat}{d:Dd}{r:(Int×Int)×Int×Hs}(hI:Inv h ps s)(hD:Did h ps s d r):∃ ps' s',Inv r.2.2 ps' s':=by
 cases hD with
 |no e he=>exact⟨_,_,hI⟩
 |opened h' k h=>exact⟨_,_,h⟩
 |kept t h' qs s' _ _ _ _ h _=>exact⟨_,_,h⟩
 |crashed h' w _ _ _ h _=>exact⟨_,_,h⟩
theorem chk_ok{p:Prop}[Decidable p](h:p):chk p=some ():=by unfold chk;rw[if_pos h]
theorem many_ok(l:List DeT)(hl:∀ d∈l,ShortDd d)(hn:l.length<8796093022208):∃ res,many_do_m l=some res∧res.1.length=l.length∧res.2.length=l.length:=by
 have:Ok (many_do_m l) (fun r=>r.1.length=l.length∧r.2.length=l.length):=by
  unfold many_do_m
  rw[show z7k=some (([],[],[],0):Hs) from rfl,Option.bind_some,z22]
  refine z3i (fun k (st:StT)=>(∃ ps s,Inv st.1 ps s)∧st.2.1.length=k∧st.2.2.length=k) ?_ (fun k d st hk hI=>?_) fun st hI=>?_
  ·obtain⟨h,e,hI⟩:=inv_new
   cases e;exact⟨⟨_,_,hI⟩,rfl,rfl⟩
  ·obtain⟨⟨ps,s,hI⟩,h1,h2⟩:=hI
   have hkl:=(List.getElem?_eq_some_iff.1 hk).1
   unfold z9t
   obtain⟨r,e,hD⟩:=do_ok (d:=d) hI (hl d (List.mem_of_getElem? hk))
   rw[e,Option.bind_some,chk_ok (by omega),Option.bind_some,chk_ok (by omega),Option.bind_some,zg,z1j]
   exact⟨hD.inv hI,by simp[h1],by simp[h2]⟩
  ·rw[zg];exact hI.2
 obtain⟨r,e,h⟩:=this
 exact⟨r,e,h⟩
theorem many_two:many_do_m [(1,1,[97],[],[],0,0,0,0),(6,0,[97],[],[],0,0,0,0)]=some ([(0,0),(1,0)],[0,0]):=by
 kernel_rfl
theorem many_any(l:List DeT)(hl:∀ d∈l,d.2.2.1.length≤9223372036854775807∧d.2.2.2.1.length≤9223372036854775807∧d.2.2.2.2.1.length≤9223372036854775807)(hn:l.length<8796093022208):∃ res,many_do_m l=some res:=by
 obtain⟨r,h,_⟩:=many_ok l (fun d hd=>let ⟨a,b,c⟩:=hl d hd;⟨a,b,c⟩) hn
 exact⟨r,h⟩
theorem many_two':many_do_m [(1,1,[97],[],[],0,0,0,0),(6,0,[97],[],[],0,0,0,0)]=some ([(0,0),(1,0)],[0,0]):=many_two
theorem within_any(x:Int)(n:Int)(h0:0<n)(h1:n≤4611686018427387904):z55 x n=some (x%n):=by
 have h2:n≠0:=by omega
 have he:0≤x%n:=Int.emod_nonneg x h2
 have hl:x%n<n:=Int.emod_lt_of_pos x h0
 unfold z55 z9r
 simp only[chk,ne_eq,h2,not_false_eq_true,if_true,Option.bind_some]
 by_cases hx:0≤x
 ·have ht:x.tmod n=x%n:=Int.tmod_eq_emod_of_nonneg hx
  rw[ht]
  rw[if_neg (by simp;omega)]
  rfl
 ·by_cases hd:x.tmod n<0
  ·rw[if_pos (by simpa using hd)]
   simp only[z2f,Option.bind_some]
   have:wadd (x.tmod n) n=x%n:=by
    unfold wadd
    rw[IntKind.wrap_i64]
    have ht:=Int.tmod_eq_emod (a:=x) (b:=n)
    have hnd:¬ n ∣ x:=fun hh=>by rw[Int.tmod_eq_zero_of_dvd hh] at hd;omega
    simp[hx,hnd] at ht
    omega
   rw[this]
  ·rw[if_neg (by simpa using hd)]
   simp only[z2f,Option.bind_some]
   have ht:=Int.tmod_eq_emod (a:=x) (b:=n)
   by_cases hnd:n ∣ x
   ·simp[hnd] at ht;rw[ht]
   ·simp[hx,hnd] at ht;omega
end Go.Pu
