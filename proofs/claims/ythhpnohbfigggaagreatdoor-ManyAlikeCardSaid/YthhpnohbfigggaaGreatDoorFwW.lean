/- How long the arguments can be: what the form's reach says of each slice. No program in sight. -/
import Derived.Test.YthhpnohbfigggaaGreatDoorFwOX
import Derived.SizedLaws
set_option linter.all false
namespace Go.Fw
open Go.RowKit
section
variable {H:Type}{P:Program}
theorem z9g{e:TypeId}:∀ {elems:List (DataW H)} {x:DataW H},x∈elems→∀ n∈x.weights P e,n∈DataW.weightsAll P e elems
 |y::r,x,hx,n,hn=>by
  simp only[DataW.weightsAll,List.mem_append]
  rcases List.mem_cons.1 hx with rfl|hx
  ·exact .inl hn
  ·exact .inr (z9g hx n hn)
 | [],_,hx,_,_=>by cases hx
def Within(P:Program)(M:Nat)(t:TypeId)(d:DataW H):Prop:=∀ n∈d.weights P t,n≤M
theorem within_top{ts:List TypeId}{ds:List (DataW H)}(h:(DataW.weightsEach P ts ds).all (·≤reachBytes)=true){j:Nat}{t:TypeId}{d:DataW H}(ht:ts[j]?=some t)(hd:ds[j]?=some d):Within P 140737488351232 t d:=fun n hn=>by
 have:=List.all_eq_true.1 h _ (DataW.weights_mem_each ht hd n hn)
 exact of_decide_eq_true this
theorem Within.slice{M:Nat}{T E:TypeId}(hu:P.underlying T=some (.slice E)){elems rest:List (DataW H)}(h:Within P M T (.slice elems rest)):elems.length*P.bytesOf E≤M∧∀ x∈elems,Within P M E x:=by
 refine⟨?_,fun x hx n hn=>h n ?_⟩
 ·have:=h ((elems.length+rest.length)*P.bytesOf E) (by simp[DataW.weights,hu])
  exact Nat.le_trans (Nat.mul_le_mul_right _ (Nat.le_add_right _ _)) this
 ·simp only[DataW.weights,hu,List.mem_cons,List.mem_append]
  exact .inr (.inl (z9g hx n hn))
end
end Go.Fw
