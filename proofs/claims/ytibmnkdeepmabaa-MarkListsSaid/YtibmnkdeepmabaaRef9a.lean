/- Steps for "a part of a row, a mark, the rest of the row" in a region that draws its order; a part of a slice of marks. No condition but sizes. -/
import Derived.Test.YtibmnkdeepmabaaMark4
import Derived.Test.YtibmnkdeepmabaaRowOps
namespace Go.Proofs.Ytibmnkdeepmabaa
open Go.RowKit

theorem Sl.take9 {w : World} {A : Option Addr} {n cap c' : Nat} {l : List Mk} (h : Sl mkE w (.slice A n cap) l) {p : Nat} (hp : p ≤ l.length) (hc : p ≤ c') (hm : c' ≤ maxLen) : Sl mkE w (.slice A p c') (l.take p) := by
  obtain ⟨A', cap', hv, h2, h3, h4⟩ := h
  injection hv with e1 e2 e3
  subst e1
  refine ⟨A, c', by rw [List.length_take, Nat.min_eq_left hp], by rw [List.length_take, Nat.min_eq_left hp]; exact hc, hm, fun h0 => ?_⟩
  rw [List.length_take, Nat.min_eq_left hp] at h0
  obtain ⟨b, off, rfl, hb, hc⟩ := h4 (by omega)
  refine ⟨b, off, rfl, hb, fun i j x u hx hu => hc i j x u ?_ hu⟩
  rw [List.getElem?_take] at hx
  split at hx
  · exact hx
  · cases hx
theorem Sl.drop9 {w : World} {A : Option Addr} {n cap c' : Nat} {l : List Mk} (h : Sl mkE w (.slice A n cap) l) {p : Nat} (hp : p ≤ l.length) (B : Option Addr) (hB : p < l.length → ∀ b off, A = some ⟨b, off, none⟩ → B = some ⟨b, off + p * 3, none⟩) (hc : l.length - p ≤ c') (hm : c' ≤ maxLen) : Sl mkE w (.slice B (l.length - p) c') (l.drop p) := by
  obtain ⟨A', cap', hv, h2, h3, h4⟩ := h
  injection hv with e1 e2 e3
  subst e1
  refine ⟨B, c', by rw [List.length_drop], by rw [List.length_drop]; exact hc, hm, fun h0 => ?_⟩
  rw [List.length_drop] at h0
  obtain ⟨b, off, rfl, hb, hc⟩ := h4 (by omega)
  refine ⟨b, off + p * 3, hB (by omega) b off rfl, hb, fun i j x u hx hu => ?_⟩
  have := hc (p + i) j x u (by rw [List.getElem?_drop] at hx; exact hx) hu
  rw [show off + p * 3 + (i * mkE.sz + j) = off + ((p + i) * mkE.sz + j) by show off + p * 3 + (i * 3 + j) = off + ((p + i) * 3 + j); omega]
  exact this

theorem heap_old2 {w : World} {b : Nat} {o o' : Obj} (h : w.heap[b]? = some o) : (w.alloc o').heap[b]? = some o := (Below.heap_alloc w o' b (Array.getElem?_eq_some_iff.1 h).1).trans h
theorem cellsG {w w8 : World} {x : Mk} {t : TypeId} {k : Nat} {row : Option Nat} (hg : w.grownBy w8 row) (hk : w.heap[k]? = some (.cells (mkE.cells x).toArray t (0, 0))) (hr : row ≠ some k) :
    ∀ j u, (mkE.cells x)[j]? = some u → w8.cell? ⟨k, 0 + j, none⟩ = some u := by
  intro j u hu
  rw [Lib.cell_of_heap ((hg.block k (Array.getElem?_eq_some_iff.1 hk).1 (fun e => hr e.symm)).trans hk), Nat.zero_add]
  simpa using hu
theorem cellsM1 {V w8 : World} {e : Obj} {x : Mk} {t : TypeId} (hg : ((V.alloc e).alloc (.cells (mkE.cells x).toArray t)).drew.grownBy w8 (some V.heap.size)) : ∀ j u, (mkE.cells x)[j]? = some u → w8.cell? ⟨V.heap.size + 1, 0 + j, none⟩ = some u := by
  refine cellsG (t := t) hg ?_ (by simp)
  have e : (V.alloc e).heap.size = V.heap.size + 1 := by simp
  rw [← e]
  exact heap_alloc_new _ _
theorem cellsM2 {V w8 : World} {e : Obj} {x : Mk} {t : TypeId} (hg : ((V.alloc (.cells (mkE.cells x).toArray t)).alloc e).drew.grownBy w8 (some (V.heap.size + 1))) : ∀ j u, (mkE.cells x)[j]? = some u → w8.cell? ⟨V.heap.size, 0 + j, none⟩ = some u :=
  cellsG hg (heap_old2 (heap_alloc_new _ _)) (by simp)

/-- the first append: onto an empty slice -/
theorem stepM1 {ops : Array Oper} {o : Oper} {a : Act} {K : Act → World → Prop} {Q : Exit → Act → World → Prop} {E : Prop} {V W : World} (hgd : o.guard = none) (s xo : Operand)
    (ho : o.op = .call { callee := .builtin .append, args := #[s, xo], argTypes := #[22, 22] }) (b0 : Nat) (hb0 : W.heap[b0]? = some (.cells #[] 32 (0, 0))) (hVb : V.heap.size ≤ b0) (hVW : Below V.heap.size V W)
    (hsv : a.eval s = .slice (some ⟨b0, 0, none⟩) 0 0) (x : Value) (N : List Mk) (hxv : a.eval xo = x) (hS : Sl mkE V x N) (hN : N.length ≤ 100000)
    (h : ∀ A' c' w', Hid (w'.ownsRow V.heap.size 32 3 (.slice A' N.length c') N.length (mkE.flat N)) → Hid (Below V.heap.size V w') → Hid (W.grownBy w' (some b0)) →
      K (a.put o.dst (.slice A' N.length c')) w') : if Region.wanted o (yielded ops a.tmps) = true then Oper.wp Try.prog o a W K Q else E := by
  obtain ⟨i0, hi, hz0, hz1, hz2⟩ := info_parts infoMark
  have hown : W.ownsRow V.heap.size 32 3 (.slice (some ⟨b0, 0, none⟩) 0 0) 0 [] := ⟨by simp, .inr ⟨b0, 0, #[], rfl, hVb, hb0, Nat.le_refl _, by simp [maxLen], by simp, by simp⟩⟩
  refine stepB_append W hgd s xo 22 22 ho V.heap.size hVW.size 32 i0 _ 3 24 Try.underlying22 hi hz0 hz1 hz2 rfl (by decide) _ 0 [] hsv hown _ N.length _ hxv ((hS.ext hVW).src Try.underlying22) (by unfold maxLen; omega) (by omega) ?_
  intro A' c' w' ho' hg hat _
  rw [Nat.zero_add] at ho' ⊢
  exact h A' c' w' (Lib.hid ho') (Lib.hid (hVW.grown hg hVW.size (fun k hk => by have h9 : some b0 = some k := hk; injection h9 with h9; omega))) (Lib.hid hg)

/-- the second append: of one mark -/
theorem stepM2 {ops : Array Oper} {o : Oper} {a : Act} {K : Act → World → Prop} {Q : Exit → Act → World → Prop} {E : Prop} {V w8 W : World} (hgd : o.guard = none) (s xo : Operand)
    (ho : o.op = .call { callee := .builtin .append, args := #[s, xo], argTypes := #[22, 22] }) (R : List Mk) (A : Option Addr) (c : Nat) (hown : w8.ownsRow V.heap.size 32 3 (.slice A R.length c) R.length (mkE.flat R)) (hb8 : Below V.heap.size V w8) (hVW : Below w8.heap.size w8 W)
    (hsv : a.eval s = .slice A R.length c) (m : Mk) (bm : Nat) (hxv : a.eval xo = .slice (some ⟨bm, 0, none⟩) 1 1) (hc : ∀ j u, (mkE.cells m)[j]? = some u → W.cell? ⟨bm, 0 + j, none⟩ = some u) (hN : R.length ≤ 100000)
    (h : ∀ A' c' w', Hid (w'.ownsRow V.heap.size 32 3 (.slice A' (R.length + 1) c') (R.length + 1) (mkE.flat (R ++ [m]))) → Hid (Below V.heap.size V w') →
      K (a.put o.dst (.slice A' (R.length + 1) c')) w') : if Region.wanted o (yielded ops a.tmps) = true then Oper.wp Try.prog o a W K Q else E := by
  obtain ⟨i0, hi, hz0, hz1, hz2⟩ := info_parts infoMark
  have hown' := own_ext hown hVW
  have hbW := hb8.trans (hVW.mono hb8.size)
  refine stepB_append W hgd s xo 22 22 ho V.heap.size hbW.size 32 i0 _ 3 24 Try.underlying22 hi hz0 hz1 hz2 rfl (by decide) _ R.length (mkE.flat R) hsv hown' _ 1 _ hxv (src_one mkE Try.underlying22 (off := 0) m _ hc) (by unfold maxLen; omega) (by omega) ?_
  intro A' c' w' ho' hg hat _
  exact h A' c' w' (Lib.hid (by rw [mkE.flat_append]; exact ho')) (Lib.hid (hbW.grown hg hbW.size (fun k hk => (hown'.lt k hk).1)))

/-- the place of an ID cuts a list as the loops do -/
theorem plc_cut (d : Int) (l : List Mk) : l.takeWhile (fun m => decide (m.id < d)) = l.take (plc d l) ∧ l.dropWhile (fun m => decide (m.id < d)) = l.drop (plc d l) := by
  have h := List.takeWhile_append_dropWhile (p := fun m : Mk => decide (m.id < d)) (l := l)
  have e : plc d l = (l.takeWhile (fun m : Mk => decide (m.id < d))).length := rfl
  rw [e]
  generalize l.takeWhile (fun m : Mk => decide (m.id < d)) = L at *
  generalize l.dropWhile (fun m : Mk => decide (m.id < d)) = R at *
  subst h
  exact ⟨(List.take_left' rfl).symm, (List.drop_left' rfl).symm⟩

end Go.Proofs.Ytibmnkdeepmabaa
