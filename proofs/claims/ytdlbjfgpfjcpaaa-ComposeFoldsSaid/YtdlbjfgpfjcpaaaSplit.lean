/- compose.Split: the part that inserts, and the part that removes. Condition: the pieces read as values of their types. -/
import Derived.Test.YtdlbjfgpfjcpaaaAll
import Derived.Deep.RegionHeld3
namespace Go.Proofs.Ytdlbjfgpfjcpaaa
open Go.RowKit

def keepP (p : Pc) : Pc := ⟨1, lg p, []⟩
def splX1 (p : Pc) : Pc := if p.k = 3 then keepP p else p
def splY1 (p : Pc) : Pc := if p.k = 3 then p else keepP p
def splX (l : List Pc) : List Pc := (formS l).map splX1
def splY (l : List Pc) : List Pc := (formS l).map splY1
def splE (l : List Pc) : Int := if errL l = 0 then (if 1048576 < inL l + (insS l).length then 5 else 0) else errL l

theorem spl_sums {n : List Pc} (h : Val n) : Val (n.map splX1) ∧ Val (n.map splY1) ∧ inL (n.map splX1) = inL n ∧ outL (n.map splX1) = inL n + (insS n).length ∧ inL (n.map splY1) = inL n + (insS n).length ∧ outL (n.map splY1) = outL n := by
  induction n with
  | nil => exact ⟨Val.nil, Val.nil, rfl, rfl, rfl, rfl⟩
  | cons p n ih =>
    obtain ⟨v1, v2⟩ := Val.cons.1 h
    obtain ⟨i1, i2, i3, i4, i5, i6⟩ := ih v2
    have hg := lg_pos v1
    have e : (insS (p :: n)).length = p.t.length + (insS n).length := by simp [insS]
    simp only [List.map_cons]
    rw [e]
    by_cases hk : p.k = 3
    · have ht : p.t = [] := by rcases Pc.valid_cases v1 with ⟨x, y, z⟩ | ⟨x, y, z⟩ | ⟨x, y, z⟩ <;> first | exact z | omega
      have hl : lg p = p.n := by unfold lg; rw [ht]; simp
      rw [show splX1 p = keepP p by unfold splX1; rw [if_pos hk], show splY1 p = p by unfold splY1; rw [if_pos hk]]
      have hv : (keepP p).valid = true := Pc.valid1 rfl hg rfl
      refine ⟨Val.cons.2 ⟨hv, i1⟩, Val.cons.2 ⟨v1, i2⟩, ?_, ?_, ?_, ?_⟩
      · simp only [inL, keepP]; omega
      · simp only [outL, inL, keepP, Pc.out, ht]; simp; omega
      · simp only [inL, ht]; simp; omega
      · simp only [outL]; omega
    · have hl : lg p = p.n + p.t.length := rfl
      have ho : p.out = lg p := by
        rcases Pc.valid_cases v1 with ⟨x, y, z⟩ | ⟨x, y, z⟩ | ⟨x, y, z⟩
        · rw [hl, z]; simp [Pc.out, x]
        · exact absurd x hk
        · rw [hl, y]; simp [Pc.out, x]
      have hv : (keepP p).valid = true := Pc.valid1 rfl hg rfl
      have hko : (keepP p).out = lg p := by simp [keepP, Pc.out]
      rw [show splX1 p = p by unfold splX1; rw [if_neg hk], show splY1 p = keepP p by unfold splY1; rw [if_neg hk]]
      refine ⟨Val.cons.2 ⟨v1, i1⟩, Val.cons.2 ⟨hv, i2⟩, ?_, ?_, ?_, ?_⟩
      · simp only [inL]; omega
      · simp only [outL, inL]; omega
      · simp only [inL, keepP]; omega
      · simp only [outL]; omega
theorem spl_ok {l : List Pc} (h0 : errL l = 0) (h5 : ¬ 1048576 < inL l + (insS l).length) : errL (splX l) = 0 ∧ errL (splY l) = 0 := by
  obtain ⟨h1, h2, h3, h4⟩ := (errL_iff l).1 h0
  obtain ⟨f1, f2, f3⟩ := formS_ok h2
  obtain ⟨i1, i2, i3, i4, i5, i6⟩ := spl_sums f1
  have hf := form4096 h0
  have ho := outL_formS h2
  have hi := ins_form h2
  rw [hi] at i4 i5
  exact ⟨(errL_iff _).2 ⟨by rw [splX, List.length_map]; exact hf, i1, by rw [splX]; omega, by rw [splX]; omega⟩, (errL_iff _).2 ⟨by rw [splY, List.length_map]; exact hf, i2, by rw [splY]; omega, by rw [splY]; omega⟩⟩

/-- two rows of the call's own -/
structure TR (w0 : World) (X Y : List Pc) (vx vy : Value) (w : World) : Prop where
  x : w.ownsRow w0.heap.size 31 3 vx X.length (pcE.flat X)
  y : w.ownsRow w0.heap.size 31 3 vy Y.length (pcE.flat Y)
  ap : ∀ g, vx.ownBlock = some g → vy.ownBlock ≠ some g
  b : Below w0.heap.size w0 w
theorem TR.ext {w0 w w' : World} {X Y : List Pc} {vx vy : Value} (h : TR w0 X Y vx vy w) (hb : Below w.heap.size w w') : TR w0 X Y vx vy w' := by
  obtain ⟨x, y, a, b⟩ := h
  exact ⟨own_keepB x (Fr.of_below (T := fun _ => False) hb) (fun _ _ h => h.elim), own_keepB y (Fr.of_below (T := fun _ => False) hb) (fun _ _ h => h.elim), a, b.trans (hb.mono b.size)⟩
theorem TR.swap {w0 w : World} {X Y : List Pc} {vx vy : Value} (h : TR w0 X Y vx vy w) : TR w0 Y X vy vx w := ⟨h.y, h.x, fun g hg hg' => h.ap g hg' hg, h.b⟩
theorem TR.appX {w0 w w' : World} {X X' Y : List Pc} {vx vx' vy : Value} (h : TR w0 X Y vx vy w) (ho : w'.ownsRow w0.heap.size 31 3 vx' X'.length (pcE.flat X')) (hg : w.grownBy w' vx.ownBlock) (hat : vx'.ownBlock = vx.ownBlock ∨ vx'.ownBlock = some w.heap.size) : TR w0 X' Y vx' vy w' := by
  obtain ⟨x, y, a, b⟩ := h
  have hf := Fr.of_grown hg
  refine ⟨ho, own_keepB y hf (fun g hg e => a g e.symm hg), fun g e => ?_, b.trans (hf.below b.size (fun k hk => (x.lt k hk.symm).1))⟩
  rcases hat with h | h
  · rw [h] at e; exact a g e
  · rw [h] at e
    intro hy
    have := (y.lt g hy).2
    injection e with e
    omega

theorem new_cellsA {α : Type} {E : Enc α} (w : World) (o : Obj) (x : α) (t : TypeId) : ∀ j u, (E.cells x)[j]? = some u → ((w.alloc (.cells (E.cells x).toArray t)).alloc o).cell? ⟨w.heap.size, 0 + j, none⟩ = some u := by
  intro j u hu
  have h : ((w.alloc (.cells (E.cells x).toArray t)).alloc o).heap[w.heap.size]? = some (.cells (E.cells x).toArray t (0, 0)) := (Below.heap_alloc _ _ _ (by simp)).trans (heap_alloc_new w _)
  rw [Lib.cell_of_heap h, Nat.zero_add]
  simpa using hu
theorem heap_mid (w : World) (b o : Obj) (cs : Array Value) (t : TypeId) : (((w.alloc b).alloc (.cells cs t)).alloc o).heap[w.heap.size + 1]? = some (.cells cs t (0, 0)) := by
  have e : (w.alloc b).heap.size = w.heap.size + 1 := by simp
  refine (Below.heap_alloc _ _ _ (by simp)).trans ?_
  rw [← e]
  exact heap_alloc_new _ _
theorem heap_last (w : World) (b o : Obj) (cs : Array Value) (t : TypeId) : (((w.alloc b).alloc o).alloc (.cells cs t)).heap[w.heap.size + 1 + 1]? = some (.cells cs t (0, 0)) := by
  have e : ((w.alloc b).alloc o).heap.size = w.heap.size + 1 + 1 := by simp
  rw [← e]
  exact heap_alloc_new _ _
theorem cellsH {w : World} {x : Pc} {t : TypeId} {k : Nat} (hk : w.heap[k]? = some (.cells (pcE.cells x).toArray t (0, 0))) : ∀ j u, (pcE.cells x)[j]? = some u → w.drew.cell? ⟨k, 0 + j, none⟩ = some u := by
  intro j u hu
  have hk' : w.drew.heap[k]? = some (.cells (pcE.cells x).toArray t (0, 0)) := hk
  rw [Lib.cell_of_heap hk', Nat.zero_add]
  simpa using hu
theorem cells1D (w : World) (b : Obj) (x : Pc) (t : TypeId) : ∀ j u, (pcE.cells x)[j]? = some u → ((w.alloc b).alloc (.cells (pcE.cells x).toArray t)).drew.cell? ⟨w.heap.size + 1, 0 + j, none⟩ = some u :=
  new_cells2 w b x t
theorem cells2D (w : World) (b o : Obj) (x : Pc) (t : TypeId) : ∀ j u, (pcE.cells x)[j]? = some u → (((w.alloc b).alloc (.cells (pcE.cells x).toArray t)).alloc o).drew.cell? ⟨w.heap.size + 1, 0 + j, none⟩ = some u :=
  cellsH (heap_mid w b o _ t)
theorem cells3D (w : World) (b o : Obj) (x : Pc) (t : TypeId) : ∀ j u, (pcE.cells x)[j]? = some u → (((w.alloc b).alloc o).alloc (.cells (pcE.cells x).toArray t)).drew.cell? ⟨w.heap.size + 1 + 1, 0 + j, none⟩ = some u :=
  cellsH (heap_last w b o _ t)
theorem cellsK {w w8 : World} {x : Pc} {t : TypeId} {k : Nat} {row : Option Nat} (hg : w.grownBy w8 row) (hk : w.heap[k]? = some (.cells (pcE.cells x).toArray t (0, 0))) (hr : row ≠ some k) :
    ∀ j u, (pcE.cells x)[j]? = some u → w8.cell? ⟨k, 0 + j, none⟩ = some u := by
  intro j u hu
  rw [Lib.cell_of_heap ((hg.block k (heap_lt hk) (fun e => hr e.symm)).trans hk), Nat.zero_add]
  simpa using hu
theorem cellsA {w w8 : World} {b o : Obj} {x : Pc} {t : TypeId} {row : Option Nat} (hg : (((w.alloc b).alloc (.cells (pcE.cells x).toArray t)).alloc o).drew.grownBy w8 row) (hr : ∀ k, row = some k → k < w.heap.size) :
    ∀ j u, (pcE.cells x)[j]? = some u → w8.cell? ⟨w.heap.size + 1, 0 + j, none⟩ = some u :=
  cellsK hg (heap_mid w b o _ t) (fun e => by have := hr _ e; omega)
theorem cellsB {w w8 : World} {b o : Obj} {x : Pc} {t : TypeId} {row : Option Nat} (hg : (((w.alloc b).alloc o).alloc (.cells (pcE.cells x).toArray t)).drew.grownBy w8 row) (hr : ∀ k, row = some k → k < w.heap.size) :
    ∀ j u, (pcE.cells x)[j]? = some u → w8.cell? ⟨w.heap.size + 1 + 1, 0 + j, none⟩ = some u :=
  cellsK hg (heap_last w b o _ t) (fun e => by have := hr _ e; omega)

theorem pcells {W : World} {k : Nat} {p : Pc} (h : W.heap[k]? = some (.cells p.cells.toArray 31 (0, 0))) :
    W.cell? ⟨k, 0, none⟩ = some (.int .u8 p.k) ∧ W.cell? ⟨k, 1, none⟩ = some (.int .i64 p.n) ∧ W.cell? ⟨k, 2, none⟩ = some (.string ⟨p.t.toArray⟩) := by
  refine ⟨?_, ?_, ?_⟩ <;> (rw [Lib.cell_of_heap h]; rfl)
/-- the append of a piece to the first of two rows, in a region that draws its order -/
theorem stepTR {ops : Array Oper} {o : Oper} {a : Act} {K : Act → World → Prop} {Q : Exit → Act → World → Prop} {E : Prop} {V W : World} (hgd : o.guard = none) (s xo : Operand)
    (ho : o.op = .call { callee := .builtin .append, args := #[s, xo], argTypes := #[22, 22] }) (w0 : World) (X Y : List Pc) (vx vy : Value) (hT : TR w0 X Y vx vy V) (hVW : Below V.heap.size V W)
    (hsv : a.eval s = vx) (p : Pc) (blk : Nat) (hxv : a.eval xo = .slice (some ⟨blk, 0, none⟩) 1 1) (hc : ∀ j u, (pcE.cells p)[j]? = some u → W.cell? ⟨blk, 0 + j, none⟩ = some u) (hX : X.length ≤ 100000)
    (h : ∀ A' c' w', Hid (TR w0 (X ++ [p]) Y (.slice A' (X.length + 1) c') vy w') → Hid (∀ k, k < V.heap.size → vx.ownBlock ≠ some k → w'.heap[k]? = V.heap[k]?) → Hid (W.grownBy w' vx.ownBlock) →
      K (a.put o.dst (.slice A' (X.length + 1) c')) w') : if Region.wanted o (yielded ops a.tmps) = true then Oper.wp Try.prog o a W K Q else E := by
  obtain ⟨i0, hi, hz0, hz1, hz2⟩ := info_parts infoPiece
  have hT' := hT.ext hVW
  refine stepB_append W hgd s xo 22 22 ho w0.heap.size hT'.b.size 31 i0 _ 3 32 Try.underlying22 hi hz0 hz1 hz2 rfl (by decide) vx X.length (pcE.flat X) hsv hT'.x _ 1 _ hxv (src_one pcE Try.underlying22 (off := 0) p _ hc) (by unfold maxLen; omega) (by omega) ?_
  intro A' c' w' ho' hg hat _
  refine h A' c' w' (Lib.hid (hT'.appX (by rw [List.length_append, pcE.flat_append]; exact ho') hg hat)) (Lib.hid fun k hk hr => ?_) (Lib.hid hg)
  exact (hg.block k (Nat.lt_of_lt_of_le hk hVW.size) (fun e => hr e.symm)).trans (hVW.block k hk)
theorem ins_take (l : List Pc) (k : Nat) : (insS (l.take k)).length ≤ (insS l).length := by
  have h : insS l = insS (l.take k) ++ insS (l.drop k) := by
    unfold insS
    rw [← List.flatMap_append, List.take_append_drop]
  have h2 := congrArg List.length h
  rw [List.length_append] at h2
  omega

set_option maxHeartbeats 4000000 in
set_option maxRecDepth 100000 in
theorem split_ok (v : Value) (l : List Pc) (w : World) (h : Sl pcE w v l) (hd : ∀ p, p ∈ l → p.wf) (h0 : errL l = 0) (h5 : ¬ 1048576 < inL l + (insS l).length) :
    Calls Try.prog 33 #[v] w fun e w' => ∃ x y, e = .returned (.tuple #[x, y, .int .i64 0]) ∧ w'.ownsRow w.heap.size 31 3 x (normS (splX l)).length (pcE.flat (normS (splX l))) ∧ w'.ownsRow w.heap.size 31 3 y (normS (splY l)).length (pcE.flat (normS (splY l))) ∧ Below w.heap.size w w' := by
  have hpre := formPre_of_lens h0
  have cA := fun w h => lengths_any v l w h hd
  have cN := fun w h => normalize_any v l w h hd
  rw [lensV_fine h0] at cA
  have hsum : (insS l).length ≤ 104857600000 := Nat.le_trans (insS_bd (l := l) (d := 1048576) (fun q hq => (hpre.2 q hq).2.2)) (Nat.le_trans (Nat.mul_le_mul_right _ hpre.1) (by decide))
  have hmono : ∀ k, (insS (l.take k)).length ≤ (insS l).length := ins_take l
  obtain ⟨A, cap, rfl, h2, h3, -⟩ := id h
  unfold maxLen at h3
  obtain ⟨i0, hi, hz0, hz1, hz2⟩ := info_parts infoPiece
  have H := Lib.hid h; have CA := Lib.hid cA; have HP := Lib.hid hpre; have HM := Lib.hid hmono
  have h5' : ¬ 1048576 < inL l + ((insS l).length : Int) := h5
  have hin := (errL_iff l).1 h0
  have hi0 : 0 ≤ inL l := hin.2.1.inL
  have hi1 : inL l ≤ 1048576 := hin.2.2.1
  have hfv := (formS_ok hin.2.1)
  have HF := Lib.hid (show ∀ p ∈ formS l, p.valid = true ∧ 0 ≤ p.n ∧ p.n ≤ 1048576 ∧ p.t.length ≤ 1048576 from fun p hp => by
    have e := (lens_formS h0).2
    have h1 := ((errL_iff _).1 e).2.1 p hp
    have h2 := (formPre_of_lens e).2 p hp
    exact ⟨h1, h2.1, h2.2.1, h2.2.2⟩)
  have hfl : (formS l).length ≤ 4096 := form4096 h0
  have h0' : errL l = 0 := h0
  have hns : normS l = formS l := by rw [normS, if_pos h0]
  have HX := Lib.hid (show ∀ k (h : k < (formS l).length), (splX l).take (k + 1) = (splX l).take k ++ [splX1 (formS l)[k]] from fun k h => by
    unfold splX; rw [List.take_succ_eq_append_getElem (by simpa using h)]; simp)
  have HY := Lib.hid (show ∀ k (h : k < (formS l).length), (splY l).take (k + 1) = (splY l).take k ++ [splY1 (formS l)[k]] from fun k h => by
    unfold splY; rw [List.take_succ_eq_append_getElem (by simpa using h)]; simp)
  have HWx := Lib.hid (wf_of_err (spl_ok h0 h5).1)
  have HWy := Lib.hid (wf_of_err (spl_ok h0 h5).2)
  have HEx := Lib.hid (spl_ok h0 h5).1
  have HEy := Lib.hid (spl_ok h0 h5).2
  have HXl := Lib.hid (show (splX l).length = (formS l).length by simp [splX])
  have HYl := Lib.hid (show (splY l).length = (formS l).length by simp [splY])
  rw [hns] at cN
  have CN := Lib.hid cN
  clear h cA cN hd hpre hmono hin h0 h5 hfv h0' hns
  generalize formS l = N at *
  generalize splX l = XS at *
  generalize splY l = YS at *
  go_enter Try.func33, Try.ntmps33
  go_wp2_with fail
  refine (CA.out _ H.out).mono ?_
  rintro e w1 ⟨rfl, hb1⟩
  have H1 := Lib.hid (H.out.ext hb1); have B1 := Lib.hid hb1
  have hs1 := hb1.size
  clear hb1 CA
  generalize inL l = I at *
  go_wp2_with fail
  go_loopw [7, 28] (fun pv i wr => ∃ k : Nat, k ≤ l.length ∧ i = .int .i64 k ∧ pv = .int .i64 ((insS (l.take k)).length : Int) ∧ Hid (Below w.heap.size w wr)) (fun _ i _ => l.length - (intOf i).toNat)
  case atStart => exact ⟨0, by omega, rfl, by simp [insS], B1⟩
  case round =>
    obtain ⟨k, hk, rfl, rfl, hB⟩ := hrel
    have hsz := hB.out.size
    by_cases hlt : k < l.length
    · have hsn := insS_snoc l k hlt
      have hm1 := HM.out k
      have hm2 := HM.out (k + 1)
      rw [hsn, List.length_append] at hm2
      have hsl : (insS (l.take (k + 1))).length = (insS (l.take k)).length + l[k].t.length := by rw [hsn, List.length_append]
      obtain ⟨b, off, cap', hv, hb, hcells⟩ := H.out.pcB hlt
      obtain ⟨rfl, rfl⟩ : A = some ⟨b, off, none⟩ ∧ cap = cap' := by injection hv with e1 e2 e3; exact ⟨e1, e3⟩
      obtain ⟨c0, c1, c2⟩ := hcells _ hB.out
      have hbw : b < wr.heap.size := Nat.lt_of_lt_of_le hb hsz
      have hw : IntKind.i64.wrap (((insS (l.take k)).length : Int) + (l[k].t.length : Int)) = ((insS (l.take k)).length : Int) + (l[k].t.length : Int) := IntWalk.i64_in _ (by omega)
      have HSL := Lib.hid hsl
      have hm3 : ((insS (l.take k)).length : Int) ≤ 104857600000 := by omega
      clear hv hcells hsn hm1 hm2 hsl
      generalize l[k] = p at *
      generalize (insS (l.take k)).length = m at *
      obtain ⟨pk, pn, pt⟩ := p
      dsimp only at c0 c1 c2 hw HSL
      go_wp2_with fail
      go_roundw
      case rel => exact ⟨k + 1, by omega, by go_num, by rw [HSL.out]; simp, Lib.hid (hB.out.alloc hsz _)⟩
      case measure => simp [intOf]; omega
    · have hkl : l.take k = l := List.take_of_length_le (by omega)
      rw [hkl]
      have hw : IntKind.i64.wrap (I + ((insS l).length : Int)) = I + ((insS l).length : Int) := IntWalk.i64_in _ (by omega)
      have hle : I + ((insS l).length : Int) ≤ 1048576 := by omega
      have H2 := Lib.hid (H.out.ext hB.out)
      clear hkl
      generalize (insS l).length = m at *
      go_wp2_with fail
      refine (CN.out _ H2.out).mono ?_
      rintro e w2 ⟨v2, rfl, ho, hb⟩
      have B2 := Lib.hid (hB.out.trans (hb.mono hsz))
      have hN := Lib.hid (Sl.of_own ho)
      clear hb ho hB H2
      have HN := hN
      clear hN
      obtain ⟨A2, cap2, rfl, -, hq3, -⟩ := id HN.out
      unfold maxLen at hq3
      have TR0 := Lib.hid (show TR w2 [] [] (.slice none 0 0) (.slice none 0 0) w2 from ⟨World.ownsRow_nil _ _ _ _, World.ownsRow_nil _ _ _ _, (fun g h => by cases h), Below.refl _ _⟩)
      go_wp2_with fail
      go_loopw [10, 11, 49] (fun vx vy i wr => ∃ (k : Nat) (X Y : List Pc) (A8 : Option Addr) (c8 : Nat) (A9 : Option Addr) (c9 : Nat), k ≤ N.length ∧ i = .int .i64 k ∧ vx = .slice A8 X.length c8 ∧ vy = .slice A9 Y.length c9 ∧ Hid (X = XS.take k ∧ Y = YS.take k) ∧ Hid (TR w2 X Y (.slice A8 X.length c8) (.slice A9 Y.length c9) wr)) (fun _ _ i _ => N.length - (intOf i).toNat)
      case atStart => exact ⟨0, [], [], _, _, _, _, by omega, rfl, rfl, rfl, Lib.hid ⟨by simp, by simp⟩, TR0⟩
      case round =>
        obtain ⟨k, X, Y, A8o, c8o, A9o, c9o, hk, rfl, rfl, rfl, hXY, HT⟩ := hrel
        have hB := Lib.hid HT.out.b
        have hsz := hB.out.size
        by_cases hlt : k < N.length
        · have hXl : X.length ≤ 4096 := by rw [hXY.out.1, List.length_take]; omega
          have hYl : Y.length ≤ 4096 := by rw [hXY.out.2, List.length_take]; omega
          have hx1 := HX.out k hlt
          have hy1 := HY.out k hlt
          rw [← hXY.out.1] at hx1
          rw [← hXY.out.2] at hy1
          obtain ⟨b, off, cap', hv, hb, hcells⟩ := HN.out.pcB hlt
          obtain ⟨rfl, rfl⟩ : A2 = some ⟨b, off, none⟩ ∧ cap2 = cap' := by injection hv with e1 e2 e3; exact ⟨e1, e3⟩
          obtain ⟨c0, c1, c2⟩ := hcells _ hB.out
          have hbw : b < wr.heap.size := Nat.lt_of_lt_of_le hb hsz
          obtain ⟨q1, q2, q3, q4⟩ := HF.out N[k] (List.getElem_mem hlt)
          have cL := fun W => long_any N[k] W q2 (by omega) (by omega)
          unfold Pc.v at cL
          have CL := Lib.hid cL; have HX1 := Lib.hid hx1; have HY1 := Lib.hid hy1
          clear hv hcells cL hx1 hy1 q1 q2 q3 q4
          generalize N[k] = p at *
          go_wp2_with fail
          refine (CL.out _).mono ?_
          rintro e w3 ⟨rfl, hb3⟩
          have B3 := Lib.hid ((hB.out.alloc hsz _).trans (hb3.mono (Nat.le_trans hsz (by simp))))
          obtain ⟨m0, m1, m2, hs3⟩ := boxAt wr p 31 (Fr.of_below (T := fun _ => False) hb3) id
          have HT3 := Lib.hid ((HT.out.ext (bal (Below.refl _ _))).ext hb3)
          have hsw : w2.heap.size ≤ w3.heap.size := HT3.out.b.size
          have HLt := Lib.hid (show ∀ g, (Value.slice A8o X.length c8o).ownBlock = some g → g < wr.heap.size from fun g hg => (HT.out.x.lt g hg).2)
          have BX0 := Lib.hid ((hb3.block wr.heap.size (by simp)).trans (heap_alloc_new wr (.cells p.cells.toArray 31)))
          clear hb3 HT hB
          by_cases hp3 : p.k = 3
          · have hp3' : (p.k == 3) = true := by rw [hp3]; rfl
            have e1 : splX1 p = keepP p := by unfold splX1; rw [if_pos hp3]
            have e2 : splY1 p = p := by unfold splY1; rw [if_pos hp3]
            rw [e1] at HX1
            rw [e2] at HY1
            clear hp3 e1 e2
            go_upto_region 19 with (fail)
            have HT4 := HT3
            clear HT3
            have BX1 := Lib.hid ((Below.heap_alloc w3 (.cells (keepP p).cells.toArray 31) _ (heap_lt BX0.out)).trans BX0.out)
            have BX2 := Lib.hid (heap_alloc_new w3 (.cells (keepP p).cells.toArray 31))
            have HLw := Lib.hid (show ∀ g, (Value.slice A8o X.length c8o).ownBlock = some g → g < w3.heap.size from fun g hg => by have := HLt.out g hg; omega)
            have HT := Lib.hid (HT4.out.ext (bal (o := .cells #[.int .u8 1, .int .i64 (lg p), .string ⟨#[]⟩] 31) (Below.refl _ _)))
            go_cut [10, 11] (fun v10 v11 wx => ∃ (A8 : Option Addr) (c8 : Nat) (A9 : Option Addr) (c9 : Nat), v10 = .slice A8 (X.length + 1) c8 ∧ v11 = .slice A9 (Y.length + 1) c9 ∧ Hid (TR w2 (X ++ [(keepP p)]) (Y ++ [p]) (.slice A8 (X.length + 1) c8) (.slice A9 (Y.length + 1) c9) wx))
            case first =>
              go_region_law (first
                | (refine stepTR rfl (.tmp 59) (.tmp 61) rfl w2 X Y _ _ HT.out ?_ rfl (keepP p) _ rfl ?_ (by omega) ?_
                   · repeat (first | exact Below.refl _ _ | refine bal ?_ | refine bdr ?_)
                   · first | exact cells1D w3 _ (keepP p) _ | exact cells2D w3 _ _ (keepP p) _ | exact cells3D w3 _ _ (keepP p) _
                   intro A8 c8 w8 HT8 HF8 HG8
                   obtain ⟨x0, x1, x2⟩ := pcells ((HF8.out _ (heap_lt BX1.out) (fun e => by have := HLt.out _ e; omega)).trans BX1.out)
                   obtain ⟨z0, z1, z2⟩ := pcells ((HF8.out _ (heap_lt BX2.out) (fun e => by have := HLt.out _ e; omega)).trans BX2.out))
                | (refine stepTR rfl (.tmp 63) (.tmp 65) rfl w2 Y (X ++ [(keepP p)]) _ _ HT8.out.swap ?_ rfl p _ rfl ?_ (by omega) ?_
                   · repeat (first | exact Below.refl _ _ | refine bal ?_ | refine bdr ?_)
                   · first | exact new_cells _ _ _ | exact cellsA (w := w3) (x := p) HG8.out HLw.out | exact cellsB (w := w3) (x := p) HG8.out HLw.out
                   intro A9 c9 w9 HT9 HF9 HG9))
              all_goals go_wp2_with fail
              all_goals go_meet
              all_goals exact ⟨_, _, _, _, rfl, rfl, Lib.hid HT9.out.swap⟩
            case rest =>
              obtain ⟨A6, c6, A7, c7, rfl, rfl, HT5⟩ := hcut
              clear HT4 HT BX0 BX1 BX2 HLt HLw B3 m0 m1 m2 hs3 hsw
              go_wp2_with fail
              go_roundw
              case rel => exact ⟨k + 1, X ++ [keepP p], Y ++ [p], A6, c6, A7, c7, by omega, by go_num, by simp, by simp, Lib.hid ⟨HX1.out.symm, HY1.out.symm⟩, Lib.hid (by rw [List.length_append, List.length_append]; exact HT5.out)⟩
              case measure => simp [intOf]; omega
          · have hp3' : (p.k == 3) = false := by rw [beq_eq_false_iff_ne]; exact hp3
            have e1 : splX1 p = p := by unfold splX1; rw [if_neg hp3]
            have e2 : splY1 p = keepP p := by unfold splY1; rw [if_neg hp3]
            rw [e1] at HX1
            rw [e2] at HY1
            clear hp3 e1 e2
            go_wp2_with fail
            have HT4 := HT3
            clear HT3
            have BX1 := Lib.hid ((Below.heap_alloc w3 (.cells (keepP p).cells.toArray 31) _ (heap_lt BX0.out)).trans BX0.out)
            have BX2 := Lib.hid (heap_alloc_new w3 (.cells (keepP p).cells.toArray 31))
            have HLw := Lib.hid (show ∀ g, (Value.slice A8o X.length c8o).ownBlock = some g → g < w3.heap.size from fun g hg => by have := HLt.out g hg; omega)
            have HT := Lib.hid (HT4.out.ext (bal (o := .cells #[.int .u8 1, .int .i64 (lg p), .string ⟨#[]⟩] 31) (Below.refl _ _)))
            go_region_law (first
              | (refine stepTR rfl (.tmp 67) (.tmp 69) rfl w2 X Y _ _ HT.out ?_ rfl p _ rfl ?_ (by omega) ?_
                 · repeat (first | exact Below.refl _ _ | refine bal ?_ | refine bdr ?_)
                 · first | exact cells1D w3 _ p _ | exact cells2D w3 _ _ p _ | exact cells3D w3 _ _ p _
                 intro A8 c8 w8 HT8 HF8 HG8
                 obtain ⟨x0, x1, x2⟩ := pcells ((HF8.out _ (heap_lt BX1.out) (fun e => by have := HLt.out _ e; omega)).trans BX1.out)
                 obtain ⟨z0, z1, z2⟩ := pcells ((HF8.out _ (heap_lt BX2.out) (fun e => by have := HLt.out _ e; omega)).trans BX2.out))
              | (refine stepTR rfl (.tmp 71) (.tmp 73) rfl w2 Y (X ++ [p]) _ _ HT8.out.swap ?_ rfl (keepP p) _ rfl ?_ (by omega) ?_
                 · repeat (first | exact Below.refl _ _ | refine bal ?_ | refine bdr ?_)
                 · first | exact new_cells _ _ _ | exact cellsA (w := w3) (x := keepP p) HG8.out HLw.out | exact cellsB (w := w3) (x := keepP p) HG8.out HLw.out
                 intro A9 c9 w9 HT9 HF9 HG9))
            all_goals
              clear HT BX0 BX1 BX2 HLt HLw B3 m0 m1 m2 hs3 hsw HT8 HF8 HG8 HF9 HG9
              have HT5 := Lib.hid HT9.out.swap
              clear HT9
              go_wp2_with fail
              go_roundw
              case rel => exact ⟨k + 1, X ++ [p], Y ++ [keepP p], A8, c8, A9, c9, by omega, by go_num, by simp, by simp, Lib.hid ⟨HX1.out.symm, HY1.out.symm⟩, Lib.hid (by rw [List.length_append, List.length_append]; exact HT5.out)⟩
              case measure => simp [intOf]; omega
        · have hXe : X = XS := by rw [hXY.out.1]; exact List.take_of_length_le (by rw [HXl.out]; omega)
          have hYe : Y = YS := by rw [hXY.out.2]; exact List.take_of_length_le (by rw [HYl.out]; omega)
          subst hXe hYe
          have cX := fun w x h => normalize_any x X w h HWx.out
          have cY := fun w x h => normalize_any x Y w h HWy.out
          rw [HEx.out] at cX
          rw [HEy.out] at cY
          have SX := Lib.hid (Sl.of_own HT.out.x); have SY := Lib.hid (Sl.of_own HT.out.y)
          have CX := Lib.hid cX; have CY := Lib.hid cY
          have B3 := Lib.hid (B2.out.trans (hB.out.mono B2.out.size))
          clear cX cY HT HX HY HXl HYl hB HN TR0 HF
          go_wp2_with fail
          refine (CX.out _ _ SX.out).mono ?_
          rintro e w4 ⟨v4, rfl, ho, hb⟩
          have O4 := Lib.hid (own_base (own_zero ho) (fun g hg => Nat.le_trans B3.out.size (ho.lt g hg).1)); have SY4 := Lib.hid (SY.out.ext hb); have B4 := Lib.hid (B3.out.trans (hb.mono B3.out.size))
          clear ho hb SX SY B3 CX
          go_wp2_with fail
          refine (CY.out _ _ SY4.out).mono ?_
          rintro e w5 ⟨v5, rfl, ho, hb⟩
          have O5 := Lib.hid (own_base (own_zero ho) (fun g hg => Nat.le_trans B4.out.size (ho.lt g hg).1)); have P5 := Lib.hid (own_keepB O4.out (Fr.of_below (T := fun _ => False) hb) (fun _ _ h => h.elim)); have B5 := Lib.hid (B4.out.trans (hb.mono B4.out.size))
          clear ho hb SY4 B4 CY O4
          go_wp2
          refine bodyPost_ret (v := .tuple #[v4, v5, .int .i64 0]) (by simp [results, Try.f33, go_sem]) rfl ⟨v4, v5, rfl, P5.out, O5.out, B5.out⟩

end Go.Proofs.Ytdlbjfgpfjcpaaa
