/- slices.Sort of numbers, by the library's own contract. -/
import Derived.Test.YthhconilidaffaaFwS
import Derived.Shelf.Sort.AssemblyIn
import Derived.Sort.EveryDepth
import Derived.Sort.OwnSortedInts
set_option linter.all false
namespace Go.Fw
open Go.Proofs Go.RowKit Go.Sort Go.Shelf
theorem reps_map : ∀ {l : List Int} {xs : List Value} {h : Hp}, reps (TR.ik .i64) h xs l → xs = l.map (Value.int .i64)
  | [], xs, h, r => r
  | x :: l, xs, h, r => by
    obtain ⟨c, ys, rfl, hc, hr⟩ := r
    rw [reps_map hr]
    obtain rfl : c = [.int .i64 x] := hc
    rfl
theorem map_reps : ∀ (l : List Int) (h : Hp), reps (TR.ik .i64) h (l.map (Value.int .i64)) l
  | [], h => rfl
  | x :: l, h => ⟨[.int .i64 x], _, rfl, rfl, map_reps l h⟩
theorem sort_big {P : Program} {ρ : Ren} (Ly : Lays.n189 P ρ) (e : TypeId) (B : World) (S X : Hp) (f : Nat → Hp) (w : World) (v0 : Value) (x0 : List Int)
    (hO : HeapOk B.heap.size S f [own e (TR.ik .i64) v0 x0, keep X].length w) (hB : Below B.heap.size B w) (hI : Its [own e (TR.ik .i64) v0 x0, keep X] S f) (h0 : x0 ≠ []) (hl : x0.length < 4611686018427387904) :
    Calls P (ρ.f 189) #[v0] w (PostM B S (fun (_ : Unit) => .tuple #[]) (fun _ => [own e (TR.ik .i64) v0 (x0.mergeSort fun x y => decide (x ≤ y)), keep X])) := by
  obtain ⟨xs, ho, hr⟩ := hI 0 _ rfl
  have hX : f 1 = X := hI 1 _ rfl
  obtain rfl := reps_map hr
  obtain ⟨hxl, ⟨_, hz⟩ | ⟨b, cap, C, rfl, hfb, h1, h2, h3, h4⟩⟩ := ho
  · exact absurd (List.eq_nil_of_length_eq_zero hz) h0
  have hb : w.heap[b]? = some (.cells C e (0, 0)) := hO.subf 0 (by simp) b _ hfb
  have hblk : b < w.heap.size := (Array.getElem?_eq_some_iff.1 hb).1
  have hH := holds_of_blockI hb (ss := x0) (by simpa [TR.ik] using h4)
  refine (calls_of_every_depth fun D => AnyS.slices_Sort_int_in Ly D b 0 cap x0 w hH hblk hl).mono ?_
  rintro _ w' ⟨rfl, n, os, rfl⟩
  have hlo := hO.lo 0 (by simp) b (by rw [hfb]; simp)
  have hn := heap_sortedI (n := n) (os := os) (x0.mergeSort fun x y => decide (x ≤ y)).toArray hb
  have hk : ∀ k, k < w.heap.size → k ≠ b → (grow (putRow (Value.int .i64) (Sort.ahead w n) b 0 (x0.mergeSort fun x y => decide (x ≤ y)).toArray) os).heap[k]? = w.heap[k]? := fun k h1 h2 => by
    rw [heap_grow_old _ _ (by simpa using h1)]
    have : b ≠ k := fun e => h2 e.symm
    simp [putRow, mapBlock, Sort.ahead, Array.getElem?_modify, this]
  generalize hw' : grow (putRow (Value.int .i64) (Sort.ahead w n) b 0 (x0.mergeSort fun x y => decide (x ≤ y)).toArray) os = w' at *
  have hs : w.heap.size ≤ w'.heap.size := by rw [← hw']; simp
  have hBw : Below B.heap.size w w' := ⟨by rw [← hw']; rfl, by rw [← hw']; rfl, by rw [← hw']; rfl, hs, fun k hk' => hk k (by have := hB.size; omega) (by omega)⟩
  have hlen : (x0.mergeSort fun x y => decide (x ≤ y)).length = x0.length := List.length_mergeSort _
  let g : Nat → Hp := fun i => if i = 0 then (fun k => if k = b then some (.cells (putCells (Value.int .i64) 0 (x0.mergeSort fun x y => decide (x ≤ y)).toArray C) e (0, 0)) else f 0 k) else f i
  have hgn : ∀ i k, g i k ≠ none → f i k ≠ none := fun i k hh => by
    by_cases hi : i = 0
    · subst hi
      by_cases hkb : k = b
      · subst hkb; rw [hfb]; simp
      · simpa [g, hkb] using hh
    · simpa [g, hi] using hh
  refine ⟨(), rfl, hB.trans hBw, S, g, Hp.le_refl S, fun k hk => .inl hk, ⟨fun k o hk1 => ?_, fun i hi k o hk1 => ?_, fun i hi k => ?_, fun i j hi hj hij k => ?_, fun i hi k hk1 => hO.lo i hi k (hgn i k hk1)⟩, fun i A hA => ?_⟩
  · have hne : k ≠ b := fun ek => by
      subst ek
      rcases hO.dS 0 (by simp) k with hh | hh
      · rw [hh] at hk1; cases hk1
      · rw [hh] at hfb; cases hfb
    have := hO.sub k o hk1
    rw [hk k (Array.getElem?_eq_some_iff.1 this).1 hne]; exact this
  · by_cases hi0 : i = 0
    · subst hi0
      by_cases hkb : k = b
      · subst hkb
        simp [g] at hk1
        rw [← hk1]; exact hn
      · simp [g, hkb] at hk1
        have := hO.subf 0 hi k o hk1
        rw [hk k (Array.getElem?_eq_some_iff.1 this).1 hkb]; exact this
    · simp [g, hi0] at hk1
      have hkb : k ≠ b := fun ek => by
        subst ek
        rcases hO.df i 0 hi (by simp) hi0 k with hh | hh
        · rw [hh] at hk1; cases hk1
        · rw [hh] at hfb; cases hfb
      have := hO.subf i hi k o hk1
      rw [hk k (Array.getElem?_eq_some_iff.1 this).1 hkb]; exact this
  · rcases hO.dS i hi k with hh | hh
    · exact .inl hh
    · by_cases hgk : g i k = none
      · exact .inr hgk
      · exact absurd hh (hgn i k hgk)
  · by_cases hgi : g i k = none
    · exact .inl hgi
    · by_cases hgj : g j k = none
      · exact .inr hgj
      · rcases hO.df i j hi hj hij k with hh | hh
        · exact absurd hh (hgn i k hgi)
        · exact absurd hh (hgn j k hgj)
  · match i, hA with
    | 0, hA =>
      simp only [List.getElem?_cons_zero, Option.some.injEq] at hA
      subst hA
      refine ⟨_, ⟨by simp [TR.ik], .inr ⟨b, cap, putCells (Value.int .i64) 0 (x0.mergeSort fun x y => decide (x ≤ y)).toArray C, by rw [hlen], by simp [g], by rw [hlen]; exact h1, h2, by simpa [putCells] using h3, ?_⟩⟩, map_reps _ S⟩
      rw [show (TR.ik .i64).size = 1 from rfl, Nat.mul_one]
      exact take_putCellsI C _ (by rw [hlen]; have : C.size = cap * 1 := h3; omega)
    | 1, hA =>
      simp only [List.getElem?_cons_succ, List.getElem?_cons_zero, Option.some.injEq] at hA
      subst hA
      exact hX
end Go.Fw
