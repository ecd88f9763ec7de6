/- Strings in the frame: comparing, joining, cutting, reading, turning into bytes and back. No program in sight. -/
import Derived.Test.YtfekdillbgblkaaFwK
import Derived.Laws.Strings3
import Derived.Laws.Cover1
import Derived.Laws.Concat
import Derived.Laws.BytesString
import Derived.Lib.ConvBytes
set_option linter.all false
namespace Go.Fw
open Go.RowKit
/-- does one text stand ahead of another? -/
def bls (x y : List UInt8) : Bool := Op.bytesLess x y
def strv (x : List UInt8) : Value := .string ⟨x.toArray⟩
def binS : BinOp → List UInt8 → List UInt8 → Option Value
  | .eql, x, y => some (.bool (x == y))
  | .neq, x, y => some (.bool (!(x == y)))
  | .lss, x, y => some (.bool (bls x y))
  | .leq, x, y => some (.bool (bls x y || x == y))
  | .gtr, x, y => some (.bool (!(bls x y || x == y)))
  | .geq, x, y => some (.bool (!(bls x y)))
  | _, _, _ => none
theorem run_binS {P : Program} {op : BinOp} {x y : List UInt8} {v : Value} (h : binS op x y = some v) (t : TypeId) (w : World) : (binOp op t (.string ⟨x.toArray⟩) (.string ⟨y.toArray⟩)).run P w = .ok v w := by
  have ex : (⟨x.toArray⟩ : ByteArray).toList = x := ByteArray.toList_mk x
  have ey : (⟨y.toArray⟩ : ByteArray).toList = y := ByteArray.toList_mk y
  cases op <;> simp [binS] at h <;> subst h <;> simp [binOp_string_eql, binOp_string_neq, binOp_string_lss, binOp_string_leq, binOp_string_gtr, binOp_string_geq, ex, ey, bls]
theorem eqGuard_str {P : Program} {op : BinOp} {t : TypeId} {x y : Operand} {a b : ByteArray} (w : World) : (eqGuard op t x y (.string a) (.string b)).run P w = .ok () w := by
  unfold eqGuard
  cases op <;> simp
section
variable {md : Md} {P : Program} {ops : Array Oper} {Q : Exit → Act → World → Prop} {c : Cx} {rest : List Oper} {env : Env} {L : List It}
variable {d : Nat} {ty : TypeId} {pos : String} {af : Array Edge} {g : Option (Nat × Bool)} {v : Value}
theorem RL.binS {op : BinOp} {xt yt : TypeId} {x y : Operand} {m n : List UInt8} (hg : wanted ops env g = some true) (hd : Slot c d) (hx : opv env x = some (.string ⟨m.toArray⟩)) (hy : opv env y = some (.string ⟨n.toArray⟩)) (hv : binS op m n = some v)
    (k : RL md P ops Q c rest (put env d v) L) : RL md P ops Q c (⟨some d, .binOp op xt x y yt, ty, pos, af, g⟩ :: rest) env L :=
  RL.val hg hd (fun S f a w st => by simp [execOp, opv_ok st.env hx, opv_ok st.env hy, eqGuard_str, run_binS hv]) k
theorem RL.cat {xt yt : TypeId} {x y : Operand} {m n : List UInt8} (hg : wanted ops env g = some true) (hd : Slot c d) (hx : opv env x = some (.string ⟨m.toArray⟩)) (hy : opv env y = some (.string ⟨n.toArray⟩)) (hl : m.length + n.length ≤ 9223372036854775807)
    (k : RL md P ops Q c rest (put env d (.string ⟨(m ++ n).toArray⟩)) L) : RL md P ops Q c (⟨some d, .binOp .add xt x y yt, ty, pos, af, g⟩ :: rest) env L :=
  RL.val hg hd (fun S f a w st => by
    have e : (⟨m.toArray⟩ : ByteArray) ++ ⟨n.toArray⟩ = ⟨(m ++ n).toArray⟩ := by apply ByteArray.ext; simp
    have hs : (⟨m.toArray⟩ : ByteArray).size + (⟨n.toArray⟩ : ByteArray).size ≤ 9223372036854775807 := by simpa [ByteArray.size] using hl
    have hr := run_string_add_sum (P := P) (w := w) ⟨m.toArray⟩ ⟨n.toArray⟩ hs
    simp [execOp, opv_ok st.env hx, opv_ok st.env hy, eqGuard_str, binOp_string_add, hr, e]) k
theorem RL.lenT {x : Operand} {T : TypeId} {m : List UInt8} (hT : P.underlying T = some .string) (hg : wanted ops env g = some true) (hd : Slot c d) (hx : opv env x = some (.string ⟨m.toArray⟩))
    (k : RL md P ops Q c rest (put env d (.int .i64 m.length)) L) : RL md P ops Q c (⟨some d, .call ⟨.builtin .len, #[x], #[T]⟩, ty, pos, af, g⟩ :: rest) env L :=
  RL.val hg hd (fun S f a w st => by
    have hs : (⟨m.toArray⟩ : ByteArray).size = m.length := by simp [ByteArray.size]
    simp [execOp, resolve, invoke, builtin, opv_ok st.env hx, run_len_string _ _ _ _ hT, goInt, hs]) k
theorem RL.idxT {x y : Operand} {T : TypeId} {kd : IntKind} {m : List UInt8} {i : Int} {b : UInt8} (hT : P.underlying T = some .string) (hg : wanted ops env g = some true) (hd : Slot c d) (hx : opv env x = some (.string ⟨m.toArray⟩)) (hy : opv env y = some (.int kd i)) (h0 : 0 ≤ i) (hb : m[i.toNat]? = some b)
    (k : RL md P ops Q c rest (put env d (.int .u8 (b.toNat : Int))) L) : RL md P ops Q c (⟨some d, .index T x y, ty, pos, af, g⟩ :: rest) env L :=
  RL.val hg hd (fun S f a w st => by
    obtain ⟨h1, h2⟩ := List.getElem?_eq_some_iff.1 hb
    have hs : (⟨m.toArray⟩ : ByteArray).size = m.length := by simp [ByteArray.size]
    have hr := run_index_string (P := P) w T ⟨m.toArray⟩ kd i hT
    rw [dif_pos ⟨h0, by rw [hs]; omega⟩] at hr
    have e : ((⟨m.toArray⟩ : ByteArray)[i.toNat]'(by rw [hs]; exact h1)) = b := by rw [← h2]; rfl
    rw [e] at hr
    simp [execOp, opv_ok st.env hx, opv_ok st.env hy, hr]) k
theorem RL.cutT {x : Operand} {lo hi : Option Operand} {T : TypeId} {m : List UInt8} {i j : Nat} (hT : P.underlying T = some .string) (hg : wanted ops env g = some true) (hd : Slot c d) (hx : opv env x = some (.string ⟨m.toArray⟩))
    (hlo : (lo = none ∧ i = 0) ∨ ∃ y kd, lo = some y ∧ opv env y = some (.int kd i)) (hhi : (hi = none ∧ j = m.length) ∨ ∃ y kd, hi = some y ∧ opv env y = some (.int kd j)) (hij : i ≤ j) (hj : j ≤ m.length)
    (k : RL md P ops Q c rest (put env d (.string ⟨((m.take j).drop i).toArray⟩)) L) : RL md P ops Q c (⟨some d, .slice T x lo hi none, ty, pos, af, g⟩ :: rest) env L :=
  RL.val hg hd (fun S f a w st => by
    have hs : (⟨m.toArray⟩ : ByteArray).size = m.length := by simp [ByteArray.size]
    have e : ∀ q, q ≤ m.length → i ≤ q → (⟨m.toArray⟩ : ByteArray).extract i q = ⟨((m.take q).drop i).toArray⟩ := fun q _ _ => by
      rw [ByteArray.extract_mk, List.drop_take]
    have b1 : ∀ (z y : Nat) (kd : IntKind) (code : BoundsCode), z ≤ y → (Instr.sliceBound (.int kd z) y code).run P w = .ok z w := fun z y kd code h1 => by
      rw [run_sliceBound w kd z y code (by omega) (by omega)]; simp
    rcases hlo with ⟨rfl, rfl⟩ | ⟨y, kd, rfl, hy⟩ <;> rcases hhi with ⟨rfl, rfl⟩ | ⟨z, ke, rfl, hz⟩
    · have e' := e m.length (Nat.le_refl _) (Nat.zero_le _)
      simp [execOp, Instr.sliceAt, Instr.slice, run_underlying hT, opv_ok st.env hx, Instr.sliceBounds, hs, e']
    · have q1 := b1 j m.length ke .sliceAlen (by omega)
      have e' := e j hj (Nat.zero_le _)
      simp [execOp, Instr.sliceAt, Instr.slice, run_underlying hT, opv_ok st.env hx, opv_ok st.env hz, Instr.sliceBounds, hs, q1, e']
    · have q1 := b1 i m.length kd .sliceB (by omega)
      have e' := e m.length (Nat.le_refl _) hij
      simp [execOp, Instr.sliceAt, Instr.slice, run_underlying hT, opv_ok st.env hx, opv_ok st.env hy, Instr.sliceBounds, hs, q1, e']
    · have q1 := b1 j m.length ke .sliceAlen (by omega)
      have q2 := b1 i j kd .sliceB hij
      have e' := e j hj hij
      simp [execOp, Instr.sliceAt, Instr.slice, run_underlying hT, opv_ok st.env hx, opv_ok st.env hy, opv_ok st.env hz, Instr.sliceBounds, hs, q1, q2, e']) k
/-- from one kind of number to another -/
theorem RL.cvI {x : Operand} {src dst : TypeId} {u : TypeDesc} {kd kx : IntKind} {n : Int} (hS : P.underlying src = some u) (hT : P.underlying dst = some (.int kd)) (hg : wanted ops env g = some true) (hd : Slot c d) (hx : opv env x = some (.int kx n))
    (k : RL md P ops Q c rest (put env d (.int kd (kd.wrap n))) L) : RL md P ops Q c (⟨some d, .convert src dst x, ty, pos, af, g⟩ :: rest) env L :=
  RL.val hg hd (fun S f a w st => by simp [execOp, opv_ok st.env hx, convert, run_underlying hS, run_underlying hT, Conv.intToInt]) k
/-- a pointer that points -/
theorem RL.nilk {α : Type} {t : TR α} {dt : α} {v : Value} {x : Operand} (n : Nat) {A : It} (hg : wanted ops env g = some true) (hd : Slot c d) (hx : opv env x = some v) (hA : L[n]? = some A) (hp : PtOf A t v dt)
    (k : RL md P ops Q c rest (put env d v) L) : RL md P ops Q c (⟨some d, .nilCheck x, ty, pos, af, g⟩ :: rest) env L :=
  RL.val hg hd (fun S f a w st => by
    obtain ⟨_, b, off, C, ty, fz, cs, _, rfl, _⟩ := hp S _ (st.has hA)
    simp [execOp, opv_ok st.env hx]) k
theorem RL.eqP {α : Type} {t : TR α} {dt : α} {v : Value} {x y : Operand} {T T' E : TypeId} (n : Nat) {A : It} (hT : P.underlying T = some (.pointer E)) (hg : wanted ops env g = some true) (hd : Slot c d) (hx : opv env x = some v) (hy : opv env y = some (.pointer none)) (hA : L[n]? = some A) (hp : PtOf A t v dt)
    (k : RL md P ops Q c rest (put env d (.bool false)) L) : RL md P ops Q c (⟨some d, .binOp .eql T x y T', ty, pos, af, g⟩ :: rest) env L :=
  RL.val hg hd (fun S f a w st => by
    obtain ⟨_, b, off, C, ty, fz, cs, _, rfl, _⟩ := hp S _ (st.has hA)
    have hT' : P.underlying T = some (.pointer (P.pointee T)) := by simp [Program.pointee, hT]
    have := run_eql_pointer_nil (P := P) w T (some ⟨b, off, none⟩) hT'
    simp [execOp, opv_ok st.env hx, opv_ok st.env hy, eqGuard, this]) k
theorem RL.neP {α : Type} {t : TR α} {dt : α} {v : Value} {x y : Operand} {T T' E : TypeId} (n : Nat) {A : It} (hT : P.underlying T = some (.pointer E)) (hg : wanted ops env g = some true) (hd : Slot c d) (hx : opv env x = some v) (hy : opv env y = some (.pointer none)) (hA : L[n]? = some A) (hp : PtOf A t v dt)
    (k : RL md P ops Q c rest (put env d (.bool true)) L) : RL md P ops Q c (⟨some d, .binOp .neq T x y T', ty, pos, af, g⟩ :: rest) env L :=
  RL.val hg hd (fun S f a w st => by
    obtain ⟨_, b, off, C, ty, fz, cs, _, rfl, _⟩ := hp S _ (st.has hA)
    have hT' : P.underlying T = some (.pointer (P.pointee T)) := by simp [Program.pointee, hT]
    have := run_neq_pointer_nil (P := P) w T (some ⟨b, off, none⟩) hT'
    simp [execOp, opv_ok st.env hx, opv_ok st.env hy, eqGuard, this]) k
def bytesOf (l : List Int) : List UInt8 := l.map fun n => UInt8.ofNat n.toNat
theorem foldl_push : ∀ (l : List Int) (m : List UInt8), l.foldl (fun (r : ByteArray) n => r.push (UInt8.ofNat n.toNat)) ⟨m.toArray⟩ = ⟨(m ++ bytesOf l).toArray⟩
  | [], m => by simp [bytesOf]
  | x :: l, m => by
    rw [List.foldl_cons]
    have e : (⟨m.toArray⟩ : ByteArray).push (UInt8.ofNat x.toNat) = ⟨(m ++ [UInt8.ofNat x.toNat]).toArray⟩ := by apply ByteArray.ext; simp [ByteArray.push]
    rw [e, foldl_push l (m ++ [UInt8.ofNat x.toNat])]
    simp [bytesOf]
theorem reps_u8 {h : Hp} : ∀ {xs : List Value} {l : List Int}, reps (TR.ik .u8) h xs l → xs = l.map (Value.int .u8)
  | xs, [], r => by simp only [reps] at r; simp [r]
  | xs, x :: l, ⟨c, q, e, r1, r2⟩ => by
    have h1 : c = [.int .u8 x] := r1
    rw [e, h1, reps_u8 r2]; rfl
/-- bytes into a text -/
theorem RL.cvBS {x : Operand} {src dst E : TypeId} {l : List Int} {v : Value} (n : Nat) {A : It} (hS : P.underlying src = some (.slice E)) (hE : P.underlying E = some (.int .u8)) (hT : P.underlying dst = some .string) (hg : wanted ops env g = some true) (hd : Slot c d)
    (hx : opv env x = some v) (hA : L[n]? = some A) (hs : SlOf A (TR.ik .u8) v l)
    (k : RL md P ops Q c rest (put env d (.string ⟨(bytesOf l).toArray⟩)) L) : RL md P ops Q c (⟨some d, .convert src dst x, ty, pos, af, g⟩ :: rest) env L :=
  RL.val hg hd (fun S f a w st => by
    have h := st.has hA
    have hn := (List.getElem?_eq_some_iff.1 hA).1
    obtain ⟨H, xs, hH, ⟨ad, cap, rfl, _, _, h2⟩, hr⟩ := hs S _ h
    have hsub : H.sub w := by
      rcases hH with rfl | rfl
      · exact st.sub
      · exact st.subf n hn
    have hxs := reps_u8 hr
    have hrun : (Conv.bytesToString (.slice ad l.length cap)).run P w = .ok (.string ⟨(bytesOf l).toArray⟩) w := by
      rcases h2 with ⟨h0, _⟩ | ⟨b, off, C, ty, fz, rfl, hb, hC⟩
      · have hl : l = [] := List.eq_nil_of_length_eq_zero h0
        subst hl
        cases ad with
        | none => rfl
        | some a =>
          have := run_bytesToString (P := P) w a 0 cap [] (by simp [loadCells, loadCellsFrom])
          exact this
      · have hl : (loadCells ⟨b, off, none⟩ l.length).run P w = .ok (l.map (Value.int .u8)).toArray w := by
          have := run_loadCells_list (P := P) w ⟨b, off, none⟩ (l.map (Value.int .u8)) (fun j u hu => by
            rw [add_mk]; exact cell_of_sub hsub hb (hC j u (by rw [hxs]; exact hu)))
          simpa using this
        rw [run_bytesToString w _ _ cap l hl]
        have := foldl_push l []
        simp only [List.nil_append] at this
        rw [← this]; rfl
    simp [execOp, opv_ok st.env hx, run_convert_bytes_string w src dst E ad l.length cap hS hE hT, hrun]) k
end

/-! ### a text into bytes: a block of its own that is only read -/
theorem St.allocG {c : Cx} {env env' : Env} {L : List It} {a a' : Act} {w w' : World} {o : Obj} {A : It} (st : St c env L a w) (hq : c.still = false) (h1 : a'.defers = c.dfs) (h2 : a'.tmps.size = c.nt) (h3 : EnvOk env' a') (hheap : w'.heap[w.heap.size]? = some o) (hb : Below w.heap.size w w')
    (hA : ∀ S f, S.sub w → Its L S f → A.P S (Hp.one w.heap.size o)) : St c env' (L ++ [A]) a' w' := by
  refine st.grow (L' := [A]) h1 h2 h3 hb (fun q => by rw [hq] at q; cases q) fun S f hs _ hi => ⟨S, fun _ => Hp.one w.heap.size o, Hp.le_refl S, Hp.sub_grow hs hb, fun b hb => .inl hb, fun i _ => ⟨Hp.one_sub hheap, fun b => ?_, fun b hb => by rw [Hp.one_ne hb]; exact Nat.le_refl _⟩, fun i j hi hj hij => by simp at hi hj; omega, fun i B hB => ?_⟩
  · by_cases hb' : S b = none
    · exact .inl hb'
    · right
      have := Hp.lt_of_sub hs hb'
      unfold Hp.one; exact if_neg (by omega)
  · match i, hB with
    | 0, hB => simp at hB; subst hB; exact hA S f hs hi
def rom {α : Type} (t : TR α) (v : Value) (l : List α) : It := ⟨fun S f => ∃ xs, slAt f v l.length xs ∧ reps t S xs l, fun le ⟨xs, a, b⟩ => ⟨xs, a, reps_mono le b⟩⟩
def intsOf (x : List UInt8) : List Int := x.map fun b => (b.toNat : Int)
theorem reps_ints {h : Hp} : ∀ x : List UInt8, reps (TR.ik .u8) h ((intsOf x).map (Value.int .u8)) (intsOf x)
  | [] => rfl
  | b :: x => ⟨[.int .u8 (b.toNat : Int)], _, rfl, rfl, reps_ints x⟩
theorem below_bytes (w : World) (e : TypeId) (s : ByteArray) : Below w.heap.size w (Lib.bytesWorld w e s) :=
  ⟨rfl, rfl, rfl, by rw [Lib.bytesWorld_size]; omega, fun k hk => Lib.bytesWorld_at_old w e s k hk⟩
section
variable {P : Program} {ops : Array Oper} {Q : Exit → Act → World → Prop} {c : Cx} {rest : List Oper} {env : Env} {L : List It}
variable {d : Nat} {ty : TypeId} {pos : String} {af : Array Edge} {g : Option (Nat × Bool)}
theorem RL.cvSB {x : Operand} {src dst E : TypeId} {u : TypeDesc} {m : List UInt8} (hS : P.underlying src = some u) (hT : P.underlying dst = some (.slice E)) (hE : P.underlying E = some (.int .u8)) (hq : c.still = false) (hg : wanted ops env g = some true) (hd : Slot c d)
    (hx : opv env x = some (.string ⟨m.toArray⟩)) (hl : m.length ≤ 9223372036854775807)
    (k : ∀ v, RL .plain P ops Q c rest (put env d v) (L ++ [imm (TR.ik .u8).sl v (intsOf m)])) : RL .plain P ops Q c (⟨some d, .convert src dst x, ty, pos, af, g⟩ :: rest) env L := by
  intro a w st
  have hsz : (⟨m.toArray⟩ : ByteArray).size = m.length := by simp [ByteArray.size]
  have hr := Lib.run_convert_string_bytes (P := P) w src dst E ⟨m.toArray⟩ hS hT hE
  rw [hsz] at hr
  have hrun : (execOp a.eval ⟨some d, .convert src dst x, ty, pos, af, g⟩).run P w = .ok (.value (.slice (some ⟨w.heap.size, 0, none⟩) m.length (grownCap w m.length 0 E))) (Lib.bytesWorld w E ⟨m.toArray⟩) := by
    simp [execOp, opv_ok st.env hx, hr]
  refine wpl_val (wanted_ok (o := ⟨some d, .convert src dst x, ty, pos, af, g⟩) st.env hg) hrun (k (.slice (some ⟨w.heap.size, 0, none⟩) m.length (grownCap w m.length 0 E)) _ _ ?_)
  have st' := st.put (.slice (some ⟨w.heap.size, 0, none⟩) m.length (grownCap w m.length 0 E)) hd
  have hil : (intsOf m).length = m.length := by simp [intsOf]
  have s2 := st.allocG (A := rom (TR.ik .u8) (.slice (some ⟨w.heap.size, 0, none⟩) m.length (grownCap w m.length 0 E)) (intsOf m)) hq st'.defers st'.size st'.env (Lib.bytesWorld_at_new w E ⟨m.toArray⟩) (below_bytes w E ⟨m.toArray⟩) fun S f _ _ => by
    refine ⟨(intsOf m).map (Value.int .u8), ⟨_, grownCap w m.length 0 E, by rw [hil], by rw [hil]; exact grownCap_ge w m.length 0 E, grownCap_le_maxLen w m.length 0 E (by simp [maxLen]; omega), .inr ⟨w.heap.size, 0, _, E, _, rfl, Hp.one_self _ _, fun j u hu => ?_⟩⟩, reps_ints m⟩
    have hj := (List.getElem?_eq_some_iff.1 hu).1
    simp only [List.length_map] at hj
    rw [hil] at hj
    rw [List.getElem?_map] at hu
    unfold Lib.bytesCells
    rw [Array.getElem?_append_left (by simpa using hj)]
    simp only [intsOf, List.getElem?_map] at hu
    simp only [Nat.zero_add, Array.getElem?_map, List.getElem?_toArray]
    rw [← hu]; cases m[j]? <;> rfl
  have s3 := s2.melt (A := rom (TR.ik .u8) (.slice (some ⟨w.heap.size, 0, none⟩) m.length (grownCap w m.length 0 E)) (intsOf m)) (C := imm (TR.ik .u8).sl (.slice (some ⟨w.heap.size, 0, none⟩) m.length (grownCap w m.length 0 E)) (intsOf m)) L.length (by simp) fun S f hdj ⟨xs, h1, h2⟩ =>
    ⟨[_], rfl, _, xs, rfl, slAt_mono (Hp.le_cup_right hdj) h1, reps_mono (Hp.le_cup_left S f) h2⟩
  have e : (L ++ [rom (TR.ik .u8) (.slice (some ⟨w.heap.size, 0, none⟩) m.length (grownCap w m.length 0 E)) (intsOf m)]).set L.length (imm (TR.ik .u8).sl (.slice (some ⟨w.heap.size, 0, none⟩) m.length (grownCap w m.length 0 E)) (intsOf m)) = L ++ [imm (TR.ik .u8).sl (.slice (some ⟨w.heap.size, 0, none⟩) m.length (grownCap w m.length 0 E)) (intsOf m)] := by
    rw [List.set_append_right _ _ (Nat.le_refl _), Nat.sub_self]; rfl
  rw [e] at s3
  exact s3
end
end Go.Fw
namespace Go.Fw
open Go.RowKit
/-! ### the front part of a slice of the call's own stays the call's own -/
theorem cutv_relen (sz : Nat) (v : Value) (k i j : Nat) : cutv sz (relen v k) i j = cutv sz v i j := by cases v <;> rfl
theorem ownAt_front {e : TypeId} {size : Nat} {f : Hp} {v : Value} {n : Nat} {xs : List Value} (h : ownAt e size f v n xs) {j : Nat} (hj : j ≤ n) : ownAt e size f (relen v j) j (xs.take (j * size)) := by
  obtain ⟨h0, h⟩ := h
  have hle : j * size ≤ xs.length := by rw [h0]; exact Nat.mul_le_mul_right _ hj
  refine ⟨by rw [List.length_take]; omega, ?_⟩
  rcases h with ⟨rfl, rfl⟩ | ⟨b, cap, C, rfl, hb, h1, h2, h3, h4⟩
  · have : j = 0 := by omega
    subst this
    exact .inl ⟨rfl, rfl⟩
  · refine .inr ⟨b, cap, C, rfl, hb, by omega, h2, h3, ?_⟩
    rw [← h4, List.take_take]; congr 1
    have := Nat.mul_le_mul_right size hj
    omega
theorem reps_front {α : Type} {t : TR α} {h : Hp} {l : List α} {xs : List Value} (r : reps t h xs l) {j : Nat} (hj : j ≤ l.length) : reps t h (xs.take (j * t.size)) (l.take j) := by
  obtain ⟨a, b, rfl, ha, h1, h2⟩ := reps_split j r hj
  rw [← ha, List.take_left]; exact h1
theorem St.frontO {c : Cx} {env : Env} {L : List It} {a : Act} {w : World} {α : Type} {e : TypeId} {t : TR α} {v : Value} {l : List α} {j : Nat} (n : Nat) (hA : L[n]? = some (own e t v l)) (hj : j ≤ l.length) (st : St c env L a w) : St c env (L.set n (own e t (relen v j) (l.take j))) a w :=
  st.map n hA fun S f ⟨xs, h1, h2⟩ => by
    refine ⟨xs.take (j * t.size), ?_, reps_front h2 hj⟩
    have := ownAt_front h1 hj
    rw [List.length_take, Nat.min_eq_left hj]; exact this
section
variable {md : Md} {P : Program} {ops : Array Oper} {Q : Exit → Act → World → Prop} {c : Cx} {rest : List Oper} {env : Env} {L : List It}
variable {d : Nat} {ty : TypeId} {pos : String} {af : Array Edge} {g : Option (Nat × Bool)}
theorem RL.cutL {α : Type} {t : TR α} {l : List α} {v : Value} {x y : Operand} {T E : TypeId} {kd : IntKind} {e : Nat} {ag : Bool} {i : Nat} (n : Nat) (hT : P.underlying T = some (.slice E)) (hE : Ln P E t.size ag) (hg : wanted ops env g = some true) (hd : Slot c d)
    (hx : opv env x = some v) (hy : opv env y = some (.int kd i)) (hA : L[n]? = some (own e t v l)) (hi : i ≤ l.length)
    (k : RL md P ops Q c rest (put env d (cutv t.size v i l.length)) L) : RL md P ops Q c (⟨some d, .slice T x (some y) none none, ty, pos, af, g⟩ :: rest) env L :=
  RL.val hg hd (fun S f a w st => by
    obtain ⟨xs, h, _⟩ := st.has hA
    obtain ⟨ad, hv, hc1, hc2⟩ := ownAt_slice h
    generalize hcap : capv v = cap at *
    subst hv
    have q1 : (Instr.sliceBound (.int kd i) l.length .sliceB).run P w = .ok i w := by
      rw [run_sliceBound w kd i l.length .sliceB (by omega) (by omega)]; simp
    simp [execOp, Instr.sliceAt, Instr.slice, run_underlying hT, opv_ok st.env hx, opv_ok st.env hy, Instr.sliceBounds, run_sizeOf hE, q1, cutv]) k
/-- the front part, where the item is that part already -/
theorem RL.cutP {α : Type} {t : TR α} {l : List α} {v : Value} {x y : Operand} {T E : TypeId} {kd : IntKind} {e : Nat} {ag : Bool} {i : Nat} (n : Nat) (hT : P.underlying T = some (.slice E)) (hE : Ln P E t.size ag) (hg : wanted ops env g = some true) (hd : Slot c d)
    (hx : opv env x = some v) (hy : opv env y = some (.int kd i)) (hA : L[n]? = some (own e t (relen v i) l)) (hi : l.length = i)
    (k : RL md P ops Q c rest (put env d (relen v i)) L) : RL md P ops Q c (⟨some d, .slice T x none (some y) none, ty, pos, af, g⟩ :: rest) env L :=
  RL.val hg hd (fun S f a w st => by
    obtain ⟨xs, h, _⟩ := st.has hA
    obtain ⟨ad, hv, hc1, hc2⟩ := ownAt_slice h
    rw [hi] at hv hc1
    cases v with
    | slice a0 n0 cap =>
      have hc1' : i ≤ cap := hc1
      have hc2' : cap ≤ maxLen := hc2
      have q1 : (Instr.sliceBound (.int kd i) cap .sliceAcap).run P w = .ok i w := by
        rw [run_sliceBound w kd i cap .sliceAcap (by omega) (by omega)]; simp [hc1']
      have ha : (if cap = 0 then a0 else a0.map fun z => z.add (0 * t.size)) = a0 := by
        split
        · rfl
        · rcases h.2 with ⟨h1, h2⟩ | ⟨b, cap', C, h1, _⟩
          · have : a0 = none := by simpa [relen] using congrArg (fun u => match u with | Value.slice q _ _ => q | _ => none) h1
            rw [this]; rfl
          · have : a0 = some ⟨b, 0, none⟩ := by simpa [relen] using congrArg (fun u => match u with | Value.slice q _ _ => q | _ => none) h1
            rw [this]; simp [add_mk]
      simp only [Nat.zero_mul] at ha
      simp [execOp, Instr.sliceAt, Instr.slice, run_underlying hT, opv_ok st.env hx, opv_ok st.env hy, Instr.sliceBounds, run_sizeOf hE, q1, relen, ha]
    | _ => simp [relen, undef] at hv) k
end
section
variable {P : Program} {ops : Array Oper} {Q : Exit → Act → World → Prop} {c : Cx} {rest : List Oper} {env : Env} {L : List It}
variable {d : Nat} {ty : TypeId} {pos : String} {af : Array Edge} {g : Option (Nat × Bool)}
theorem RL.clrL {α : Type} {t : TR α} {zc : List Value} {T E : TypeId} {x : Operand} {v : Value} {l : List α} {i : Nat} (n : Nat) (hT : P.underlying T = some (.slice E)) (hO : LnO P E t.size zc) (hzf : ∀ u ∈ zc, u.oneCell' = true) (hq : c.still = false) (hg : wanted ops env g = some true)
    (hx : opv env x = some (cutv t.size v i l.length)) (hA : L[n]? = some (own E t v l)) (hi : i ≤ l.length)
    (k : RL .plain P ops Q c rest env (L.set n (own E t (relen v i) (l.take i)))) : RL .plain P ops Q c (⟨none, .call ⟨.builtin .clear, #[x], #[T]⟩, ty, pos, af, g⟩ :: rest) env L := by
  have hn := (List.getElem?_eq_some_iff.1 hA).1
  have hlen : (l.take i).length = i := by rw [List.length_take]; omega
  intro a w st
  have hcap : l.length ≤ capv v := by
    obtain ⟨S, f, _, _, xs, h, _⟩ := st.has hA
    obtain ⟨ad, h1, h2, h3⟩ := ownAt_slice h
    exact h2
  have hcv : capv (relen v i) = capv v := by cases v <;> rfl
  refine RL.clr (t := t) (v := relen v i) (l := l.take i) (j := l.length) n hT hO hzf hq hg ?_ (List.getElem?_set_self hn) ?_ ?_ k a w (st.frontO n hA hi)
  · rw [hlen, cutv_relen]; exact hx
  · rw [hlen]; exact hi
  · rw [hcv]; exact hcap
/-- the front part is kept, the rest is forgotten -/
theorem RL.cutF {α : Type} {t : TR α} {l : List α} {v : Value} {x y : Operand} {T E : TypeId} {kd : IntKind} {e : Nat} {ag : Bool} {i : Nat} (n : Nat) (hT : P.underlying T = some (.slice E)) (hE : Ln P E t.size ag) (hg : wanted ops env g = some true) (hd : Slot c d)
    (hx : opv env x = some v) (hy : opv env y = some (.int kd i)) (hA : L[n]? = some (own e t v l)) (hi : i ≤ l.length)
    (k : RL .plain P ops Q c rest (put env d (relen v i)) (L.set n (own e t (relen v i) (l.take i)))) : RL .plain P ops Q c (⟨some d, .slice T x none (some y) none, ty, pos, af, g⟩ :: rest) env L := by
  have hn := (List.getElem?_eq_some_iff.1 hA).1
  intro a w st
  exact RL.cutP (t := t) (l := l.take i) n hT hE hg hd hx hy (List.getElem?_set_self hn) (by rw [List.length_take]; omega) k a w (st.frontO n hA hi)
end
end Go.Fw
