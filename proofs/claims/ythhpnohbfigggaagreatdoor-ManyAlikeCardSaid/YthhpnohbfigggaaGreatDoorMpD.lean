/- The lone code's text, looked at by the kernel. -/
import Derived.Test.YthhpnohbfigggaaGreatDoorChecked
import Derived.Test.YthhpnohbfigggaaGreatDoorMnM
import Derived.Test.YthhpnohbfigggaaGreatDoorMpT
set_option linter.all false
set_option maxRecDepth 100000
namespace Go.Mn
open Go.Proofs
noncomputable def QT(t:TypeId):Bool:=Nat.blt t 220&&match Tryz.prog.info? t with
 |some i=>i.comparable||(match Tryz.prog.underlying t with|some (.slice _)=>true|some (.map _ _)=>true|_=>false)
 |none=>false
noncomputable def TX:Txt:=⟨fun f=>f==5||f==6||f==7||f==10||f==13||f==27||f==28||(Nat.ble 38 f&&Nat.ble f 139 && !(f==47)),fun g=>Nat.ble g 7,QT⟩
noncomputable def look1(f:Nat):Bool:=match Tryz.prog.funcs[f]? with
 |some fn => !(fn.name == "runtime.NumGoroutine")&&(match fn.body with|some c=>okC Tryz.prog TX c|none=>f==114||f==130||f==138)
 |none=>false
theorem look_all:(List.range 140).all (fun f => !(TX.F f)||look1 f)=true:=by kernel_rfl
def TF(f:Nat):Prop:=TX.F f=true
theorem TF.lt{f:Nat}(h:TF f):f<140:=by
 simp only[TF,TX,Bool.or_eq_true,Bool.and_eq_true,beq_iff_eq,Nat.ble_eq] at h
 omega
theorem TF.look{f:Nat}(h:TF f):look1 f=true:=by
 have:=List.all_eq_true.1 look_all f (List.mem_range.2 h.lt)
 simp only[Bool.or_eq_true,Bool.not_eq_true'] at this
 rcases this with e|e
 ·rw[TF] at h;rw[h] at e;cases e
 ·exact e
theorem TF.fn{f:Nat}(h:TF f):∃ fn,Tryz.prog.funcs[f]?=some fn∧(fn.name == "runtime.NumGoroutine")=false∧((∃ c,fn.body=some c∧okC Tryz.prog TX c=true)∨(fn.body=none∧(f=114∨f=130∨f=138))):=by
 have:=h.look
 unfold look1 at this
 split at this
 ·rename_i fn e
  simp only[Bool.and_eq_true,Bool.not_eq_true'] at this
  refine⟨fn,e,this.1,?_⟩
  have h2:=this.2
  cases hb:fn.body with
  |some c=>rw[hb] at h2;exact .inl ⟨c,rfl,h2⟩
  |none=>
   rw[hb] at h2
   simp only[Bool.or_eq_true,beq_iff_eq] at h2
   exact .inr ⟨rfl,by omega⟩
 ·cases this
def okV2(v:Value):Bool:=okV1 (fun _=>false) v||match v with
 |.agg cs|.tuple cs=>cs.all (okV1 fun _=>false)
 |_=>false
theorem okV2_vr{F:Nat→Prop}{ρ:Bij}{v:Value}(h:okV2 v=true):VR F ρ v v:=by
 have e:∀ {v},okV1 (fun _=>false) v=true→VR F ρ v v:=fun h=>okV1_vr (fun _ h=>by cases h) h
 simp only[okV2,Bool.or_eq_true] at h
 rcases h with h|h
 ·exact e h
 ·have all:∀ {cs:Array Value},cs.all (okV1 fun _=>false)=true→∀ (i:Nat) (v v':Value),cs[i]?=some v→cs[i]?=some v'→VR F ρ v v':=fun {cs} h i v v' e1 e'=>by
   rw[e1] at e';cases e'
   exact e (by rw[Array.all_eq_true'] at h;exact h v (Array.mem_of_getElem? e1))
  split at h
  ·exact .agg rfl (all h)
  ·exact .tuple rfl (all h)
  ·cases h
theorem zero_all:Tryz.prog.types.toList.all (fun i=>match i.zero with|some v=>okV2 v|none=>true)=true:=by kernel_rfl
theorem zs:Zs TF Tryz.prog:=zs_of fun t i v e ez ρ=>by
 have:=List.all_eq_true.1 zero_all i (Array.mem_toList_iff.2 (Array.mem_of_getElem? e))
 rw[ez] at this
 exact okV2_vr this
theorem maxLen_at:Tryz.prog.globals.findIdx? (·.name == "internal/bytealg.MaxLen")=some 3:=by kernel_rfl
theorem fns:Fns TF Tryz.prog TX.G:=⟨fun f hf=>by
 obtain⟨fn,e1,e2,h⟩:=hf.fn
 refine⟨fn,e1,e2,?_⟩
 rcases h with⟨c,hc,_⟩|⟨hb,hf⟩
 ·exact .inl (by rw[hc];rfl)
 ·right
  rcases hf with rfl|rfl|rfl
  ·obtain rfl:=Option.some.inj ((Tryz.func114).symm.trans e1)
   exact⟨rfl,by kernel_rfl,Extern.BytealgCount.count,by kernel_rfl,fun ρ _ xs xs' h=>sr_count h⟩
  ·obtain rfl:=Option.some.inj ((Tryz.func130).symm.trans e1)
   exact⟨rfl,by kernel_rfl,Extern.BytealgIndex.index,by kernel_rfl,fun ρ hg xs xs' h=>sr_indexS maxLen_at (hg 3 rfl) h⟩
  ·obtain rfl:=Option.some.inj ((Tryz.func138).symm.trans e1)
   exact⟨rfl,by kernel_rfl,Extern.BytealgIndexByte.indexByte,by kernel_rfl,fun ρ _ xs xs' h=>sr_indexByte h⟩⟩
theorem cmp_all:(List.range 220).all (fun t => !(QT t)||(match Tryz.prog.underlying t with
  |some (.func _ _ _)=>false
  |some (.struct fs)=>fs.all fun f=>QT f.type
  |some (.array _ e)=>QT e
  |_=>true))=true:=by kernel_rfl
theorem QT.at{t:TypeId}(h:QT t=true):(match Tryz.prog.underlying t with
  |some (.func _ _ _)=>false
  |some (.struct fs)=>fs.all fun f=>QT f.type
  |some (.array _ e)=>QT e
  |_=>true)=true:=by
 have hl:t<220:=by
  unfold QT at h
  rw[Bool.and_eq_true] at h
  exact Nat.le_of_ble_eq_true h.1
 have:=List.all_eq_true.1 cmp_all t (List.mem_range.2 hl)
 rw[h] at this
 simpa using this
theorem cmp:zbz Tryz.prog QT:=by
 refine⟨fun {t a b c} h e=>?_,fun {t fs} h e f hf=>?_,fun {t n el} h e=>?_,fun {t i} hl e h=>by unfold QT;rw[e,show Nat.blt t 220=true from Nat.ble_eq_true_of_le hl];simp[h]⟩
 ·have:=QT.at h;rw[e] at this;cases this
 ·have:=QT.at h
  rw[e] at this
  simp only at this
  rw[Array.all_eq_true'] at this
  exact this f hf
 ·have:=QT.at h;rw[e] at this;exact this
theorem pg:Pg TF Tryz.prog TX:=⟨cmp,zs,fns,fun _ h=>h,fun f fn hf e c hb=>by
 obtain⟨fn',e',_,hh⟩:=hf.fn
 rw[e] at e';cases e'
 rcases hh with⟨c',hc,ho⟩|⟨hn,_⟩
 ·rw[hb] at hc;cases hc;exact ho
 ·rw[hb] at hn;cases hn⟩
end Go.Mn
