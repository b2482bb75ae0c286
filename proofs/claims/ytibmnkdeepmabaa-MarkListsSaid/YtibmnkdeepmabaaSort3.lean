/- slices.insertionSortCmpFunc at marks, over a row of the call's own: by the library's contract. No condition but the row's length. -/
import Derived.Test.YtibmnkdeepmabaaSort2
import Derived.Test.YtibmnkdeepmabaaSortP
import Derived.Lib.OwnBridge
import Derived.Lib.AppendIntMem
namespace Go.Proofs.Ytibmnkdeepmabaa
open Go.RowKit Go.Sort Go.Shelf
def insLay_ren : Go.Shelf.Ren := ⟨fun | 20 => 79 | n => n, fun | 24 => 32 | 22 => 22 | 3 => 3 | 25 => 72 | 4 => 4 | 0 => 0 | n => n, fun | n => n⟩
theorem insLay : Go.Proofs.SlLaysF0.n20 Try.prog insLay_ren := {
  mixed := by kernel_rfl
  f20 := ⟨Try.f79.name, by decide, Try.func79.trans (congrArg some (by kernel_rfl))⟩
  t0 := Try.underlying0
  a0 := Try.isAgg0
  z0 := Try.sizeOf0
  v0 := Try.zeroValue0
  t3 := Try.underlying3
  a3 := Try.isAgg3
  z3 := Try.sizeOf3
  v3 := Try.zeroValue3
  t4 := Try.underlying4
  a4 := Try.isAgg4
  z4 := Try.sizeOf4
  v4 := Try.zeroValue4
  t22 := Try.underlying22
  a22 := Try.isAgg22
  z22 := Try.sizeOf22
  v22 := Try.zeroValue22
  t25 := Try.underlying72
  a25 := Try.isAgg72
  z25 := Try.sizeOf72
  v25 := Try.zeroValue72 }

theorem flatK_flat (l : List Mk) : (flatK mkE.cells 3 l.toArray).toList = mkE.flat l := by
  apply List.ext_getElem?
  intro j
  have hs : (flatK mkE.cells 3 l.toArray).size = l.length * 3 := by simp
  by_cases hj : j < l.length * 3
  · have h1 : j / 3 < l.length := by omega
    have h2 : j % 3 < 3 := Nat.mod_lt _ (by omega)
    have e := mkE.flat_at l (j / 3) (j % 3) l[j / 3] ((mkE.cells l[j / 3])[j % 3]'(by rw [mkE.len]; exact h2)) (List.getElem?_eq_getElem h1) (List.getElem?_eq_getElem _)
    rw [show j / 3 * mkE.sz + j % 3 = j by show j / 3 * 3 + j % 3 = j; omega] at e
    rw [e, Array.getElem?_toList, Array.getElem?_eq_getElem (by omega)]
    have := get_flatK mkE.cells 3 l.toArray j (by simpa using hj)
    rw [getElem!_pos _ j (by omega)] at this
    rw [this]
    congr 1
    rw [getElem!_pos l.toArray (j / 3) (by simpa using h1)]
    rw [getElem!_pos _ (j % 3) (by rw [mkE.len]; exact h2)]
    rfl
  · rw [Array.getElem?_toList, Array.getElem?_eq_none (by omega), List.getElem?_eq_none (by rw [mkE.flat_len]; show l.length * 3 ≤ j; omega)]

theorem holds9 {w : World} {B g c : Nat} {l : List Mk} {e : TypeId} (h : w.ownsRow B e 3 (.slice (some ⟨g, 0, none⟩) l.length c) l.length (mkE.flat l)) : HoldsK mkE.cells 3 w g 0 l.toArray := by
  intro j hj
  rw [size_flatK] at hj
  have hj2 : j < l.length * 3 := by simpa using hj
  rw [Nat.zero_add]
  refine ⟨?_, h.frozenAt j⟩
  rw [h.cellAt j hj2, ← flatK_flat l, Array.getElem?_toList, Array.getElem?_eq_getElem (by rw [size_flatK]; exact hj), getElem!_pos _ j (by rw [size_flatK]; exact hj)]
  rfl

theorem own_sorted9 {w : World} {B g c m : Nat} {l ys : List Mk} {e : TypeId} {os : Array Obj} (h : w.ownsRow B e 3 (.slice (some ⟨g, 0, none⟩) l.length c) l.length (mkE.flat l)) (hy : ys.length = l.length) :
    (sortWorldK mkE.cells 3 w g 0 m ys.toArray os).ownsRow B e 3 (.slice (some ⟨g, 0, none⟩) l.length c) l.length (mkE.flat ys) := by
  have hlt := (h.lt g rfl).2
  rcases h.2 with ⟨e0, _⟩ | ⟨g', cap', cur, e0, hb, hg, hn, hm, hs, ht⟩
  · cases e0
  injection e0 with e1 _ e3
  injection e1 with e1
  injection e1 with e1
  subst e1; subst e3
  have hmul := Nat.mul_le_mul_right 3 hn
  have hf : (flatK mkE.cells 3 ys.toArray).size = l.length * 3 := by simp [hy]
  refine ⟨by rw [mkE.flat_len, hy]; rfl, .inr ⟨g, c, putCells id 0 (flatK mkE.cells 3 ys.toArray) cur, rfl, hb, ?_, hn, hm, by simpa [putCells] using hs, ?_⟩⟩
  · unfold sortWorldK putRowK
    rw [heap_grow_old _ _ (by simpa [putRow, mapBlock, Sort.ahead] using hlt)]
    simp [putRow, mapBlock, Sort.ahead, Array.getElem?_modify, hg, onCells]
  · rw [← flatK_flat ys]
    apply List.ext_getElem?
    intro j
    rw [List.getElem?_take, Array.getElem?_toList, Array.getElem?_toList]
    by_cases hj : j < l.length * 3
    · have hjc : j < cur.size := by omega
      simp only [if_pos hj, putCells, Array.getElem?_mapIdx, Array.getElem?_eq_getElem hjc, Option.map_some]
      rw [if_pos (by omega), Array.getElem?_eq_getElem (by omega), Nat.sub_zero, getElem!_pos _ j (by omega)]
      rfl
    · rw [if_neg hj, Array.getElem?_eq_none (by omega)]

theorem below_sorted9 (w : World) (B g m : Nat) (d : Array Mk) (os : Array Obj) (hB : B ≤ w.heap.size) (hg : B ≤ g) : Below B w (sortWorldK mkE.cells 3 w g 0 m d os) := by
  unfold sortWorldK putRowK
  have h1 : Below B w (putRow id (Sort.ahead w m) g 0 (flatK mkE.cells 3 d)) := Lib.below_putRow (Below.refl B w) hg
  exact h1.trans (Lib.below_grow B _ (Nat.le_trans hB h1.size) 0 os)

theorem cmpLays9 (blk off size : Nat) (w : World) : CmpLays Try.prog 43 #[] mkE.cells 3 cf9 blk off size w := by
  intro m os dk _ x y
  exact btwC_any x y _

/-- the function value -/
def fvB : Value := .func (.func 43) #[] #[]
theorem insSort_any (l : List Mk) (a b B g c : Nat) (w : World) (h : w.ownsRow B 32 3 (.slice (some ⟨g, 0, none⟩) l.length c) l.length (mkE.flat l)) (hB : B ≤ w.heap.size) (hab : a ≤ b) (hb : b ≤ l.length) (hl : l.length ≤ 1000000) :
    Calls Try.prog 79 #[.slice (some ⟨g, 0, none⟩) l.length c, .int .i64 a, .int .i64 b, fvB] w fun e w' => e = .returned (.tuple #[]) ∧
      w'.ownsRow B 32 3 (.slice (some ⟨g, 0, none⟩) l.length c) l.length (mkE.flat (insertionSort lt9 l.toArray a b).toList) ∧ Below B w w' := by
  have eg : ∀ args w, (callFunc 43 args).run Try.prog w = .ok (.enter 43 args) w := enters_of Try.func43 (by kernel_rfl) rfl
  have hg := (h.lt g rfl)
  have := AnyQ.insertionSortCmpFunc insLay 3 Try.isAgg32 Try.sizeOf32 mkE.cells mkE.len mkE.one cf9 43 #[] g 0 c a b l.toArray w eg (cmpLays9 _ _ _ _) (holds9 h) hg.2 hab (by simpa using hb) (by simp; omega)
  refine Calls.mono this ?_
  rintro e w' ⟨rfl, n, os, rfl⟩
  have hs := insertion_same l.toArray a b (by simpa using hb)
  refine ⟨rfl, ?_, below_sorted9 _ _ _ _ _ _ hB hg.1⟩
  exact own_sorted9 (ys := (insertionSort lt9 l.toArray a b).toList) h (by rw [Array.length_toList, hs.1]; simp)

end Go.Proofs.Ytibmnkdeepmabaa
