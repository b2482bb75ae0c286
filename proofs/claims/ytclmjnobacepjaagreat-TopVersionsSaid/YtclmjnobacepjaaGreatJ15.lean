/- plan.leaves as a merge; plan.fold. -/
import Derived.Test.YtclmjnobacepjaaGreatJ14
namespace Go.Proofs.YtclmjnobacepjaaGreat
open Go.RowKit

theorem Sl.of2 {w : World} {b : Nat} {x y : TC} (h : Bk w b (x.cells ++ y.cells).toArray 76) : Sl tcE w (.slice (some ⟨b, 0, none⟩) 2 2) [x, y] := by
  refine ⟨_, 2, rfl, by simp, by simp [maxLen], fun _ => ⟨b, 0, rfl, h.lt, fun i j c u hc hu => ?_⟩⟩
  have hflat : (x.cells ++ y.cells) = tcE.flat [x, y] := by simp [Enc.flat, tcE]
  have := tcE.flat_at [x, y] i j c u hc hu
  rw [Nat.zero_add, h.cell, hflat]
  simpa using this
theorem Sl.of1 {w : World} {b : Nat} {x : TC} (h : Bk w b x.cells.toArray 76) : Sl tcE w (.slice (some ⟨b, 0, none⟩) 1 1) [x] := by
  refine ⟨_, 1, rfl, by simp, by simp [maxLen], fun _ => ⟨b, 0, rfl, h.lt, fun i j c u hc hu => ?_⟩⟩
  have hflat : x.cells = tcE.flat [x] := by simp [Enc.flat, tcE]
  have := tcE.flat_at [x] i j c u hc hu
  rw [Nat.zero_add, h.cell, hflat]
  simpa using this
theorem Sl.takeS {α : Type} {E : Enc α} {w : World} {A : Option Addr} {n cap : Nat} {l : List α} (h : Sl E w (.slice A n cap) l) (k : Nat) (hk : k ≤ l.length) : Sl E w (.slice A k cap) (l.take k) := by
  obtain ⟨A', cap', e, h2, h3, h4⟩ := h
  injection e with e1 e2 e3
  subst e1 e3
  have hl : (l.take k).length = k := by rw [List.length_take]; omega
  refine ⟨A, cap, by rw [hl], by omega, h3, fun hp => ?_⟩
  obtain ⟨b, off, hA, hb, hc⟩ := h4 (by omega)
  refine ⟨b, off, hA, hb, fun i j x u hx hu => hc i j x u ?_ hu⟩
  rw [List.getElem?_take] at hx
  split at hx
  · exact hx
  · cases hx
theorem Sl.dropS {α : Type} {E : Enc α} {w : World} {b off n cap : Nat} {l : List α} (h : Sl E w (.slice (some ⟨b, off, none⟩) n cap) l) (k : Nat) (hk : k ≤ l.length) (A : Option Addr) (hA : k < l.length → A = some ⟨b, off + k * E.sz, none⟩) : Sl E w (.slice A (l.length - k) (cap - k)) (l.drop k) := by
  obtain ⟨A', cap', e, h2, h3, h4⟩ := h
  injection e with e1 e2 e3
  subst e1 e3
  have hl : (l.drop k).length = l.length - k := List.length_drop
  refine ⟨A, cap - k, by rw [hl], by omega, by omega, fun hp => ?_⟩
  obtain ⟨b', off', hA', hb, hc⟩ := h4 (by omega)
  cases hA'
  refine ⟨b, off + k * E.sz, hA (by omega), hb, fun i j x u hx hu => ?_⟩
  rw [List.getElem?_drop] at hx
  have := hc (k + i) j x u hx hu
  rw [show off + k * E.sz + (i * E.sz + j) = off + ((k + i) * E.sz + j) by rw [Nat.add_mul]; omega]
  exact this

theorem sizeTc (W : World) : (sizeOf 76).run Tryz.prog W = .ok 7 W := by kernel_rfl
theorem elemTc : Tryz.prog.elem 74 = 76 := by kernel_rfl
theorem add_zero' (a : Addr) : a.add 0 = a := by unfold Addr.add; simp
/-- x[:k] -/
theorem slT_h (W : World) (A : Option Addr) (n cap k : Nat) (h : k ≤ cap) : (Instr.slice 74 (.slice A n cap) none (some (.int .i64 k)) none).run Tryz.prog W = .ok (.slice A k cap) W := by
  rw [run_slice_h W 74 A n cap (by rw [elemTc]; exact Tryz.underlying74) .i64 k (by omega) (by omega), elemTc, sizeTc]
  have e1 : A.map (fun x => x.add 0) = A := by cases A <;> simp [add_zero']
  simp [sliced, Result.andThen, e1]
/-- &x[k] -/
theorem ixT (W : World) (b off n cap k : Nat) (h : k < n) : (Instr.indexAt 74 (.slice (some ⟨b, off, none⟩) n cap) (.int .i64 k)).run Tryz.prog W = .ok (.pointer (some ⟨b, off + k * 7, none⟩)) W := by
  have hk : (k : Int) < (n : Int) := by omega
  simp [go_sem, elemTc, sizeTc, hk, Result.andThen, add_flat, Tryz.underlying74]
/-- x[k:] -/
theorem slT_l (W : World) (b off n cap k : Nat) (h : k ≤ n) : (Instr.slice 74 (.slice (some ⟨b, off, none⟩) n cap) (some (.int .i64 k)) none none).run Tryz.prog W = .ok (.slice (if cap = k then some ⟨b, off, none⟩ else some ⟨b, off + k * 7, none⟩) (n - k) (cap - k)) W := by
  rw [run_slice_l W 74 _ n cap (by rw [elemTc]; exact Tryz.underlying74) .i64 k (by omega) (by omega), elemTc, sizeTc]
  simp [sliced, Result.andThen, add_flat]

theorem leaves_any (A : AF) (G : Ar) (cx cy : TC) (Ix Iy : PI) (w : World) (hA : ArM w A G) (qx : PV G FT w 0 cx Ix) (qy : PV G FT w 0 cy Iy) :
    Calls Tryz.prog 107 #[.pointer (some ⟨A.ba, 0, none⟩), cx.v, cy.v] w fun e w' => ∃ v l Is, e = .returned (.tuple #[v, .int .i64 0]) ∧ MrgV G w' 0 Ix Iy v l Is ∧ Below w.heap.size w w' := by
  have lx := pv0_len hA.ok qx
  have ly := pv0_len hA.ok qy
  by_cases hc : 16 < Ix.T.length + Iy.T.length ∧ 8 ≤ Ix.T.length ∧ 8 ≤ Iy.T.length
  · obtain ⟨h1, h2, h3⟩ := hc
    refine (leaves_two A G cx cy Ix Iy w hA qx qy h1 h2 h3).mono ?_
    rintro e w' ⟨b, he, hb, hB⟩
    refine ⟨_, [cx, cy], [Ix, Iy], he, ⟨Sl.of2 hb, ⟨qx.ext hB, qy.ext hB, trivial⟩, .inr rfl, by simp, ?_, ?_⟩, hB⟩
    · intro S _ a b J hJ
      simp at hJ
      rcases hJ with rfl | rfl
      · exact a
      · exact b
    · intro _ _ J hJ
      simp at hJ
      rcases hJ with rfl | rfl
      · exact h2
      · exact h3
  · refine (leaves_join A G cx cy Ix Iy w hA qx qy (by omega)).mono ?_
    rintro e w' ⟨v, he, hs, hB⟩
    refine ⟨v, _, (joinL Ix.T Iy.T).map lfPI, he, ⟨hs, leaf_pv _ (fun T hT => ?_), ?_, ?_, ?_, ?_⟩, hB⟩
    · have := joinL_mem lx ly hT
      omega
    · rw [List.length_map]; exact joinL_len _ _
    · rw [List.map_map, show PI.T ∘ lfPI = id from rfl, List.map_id, joinL_flat]
    · intro S _ _ _ J hJ
      obtain ⟨T, _, rfl⟩ := List.mem_map.1 hJ
      intro k hk; cases hk
    · intro _ h8 J hJ
      obtain ⟨T, hT, rfl⟩ := List.mem_map.1 hJ
      have := joinL_mem lx ly hT
      rw [List.length_map] at h8
      show 8 ≤ T.length
      rcases h8 with h8 | h8
      · exact this.2.2.1 (by omega)
      · exact this.2.2.2 h8

/-- one or two plans above a list of plans -/
structure FoldV (G : Ar) (w : World) (h : Nat) (Is0 : List PI) (v : Value) (l : List TC) (Is : List PI) : Prop where
  sl : Sl tcE w v l
  pv : All2 (PV G FT w (h + 1)) l Is
  len : l.length = 1 ∨ l.length = 2
  txt : (Is.map PI.T).flatten = (Is0.map PI.T).flatten
  kin : ∀ S, (∀ J ∈ Is0, KIn S J) → ∀ J ∈ Is, KIn S J

set_option maxHeartbeats 1000000 in
set_option maxRecDepth 100000 in
theorem fold_one {G : Ar} (h : Nat) (hh : h ≤ 14) (v : Value) (l : List TC) (Is : List PI) (w : World) (hsl : Sl tcE w v l) (ha : All2 (KV G FT w h) l Is) (h2 : 2 ≤ l.length) (h4 : l.length ≤ 4) :
    Calls Tryz.prog 108 #[v] w fun e w' => ∃ v' l' Is', e = .returned v' ∧ FoldV G w' h Is v' l' Is' ∧ Below w.heap.size w w' := by
  have cG := Lib.hid (group_any h hh v l Is w hsl ha h4)
  have hIl := Lib.hid ha.len
  obtain ⟨A, cap, rfl, -⟩ := id hsl
  have d4 : (l.length : Int) ≤ 4 := by omega
  clear hsl ha
  go_enter Tryz.func108, Tryz.ntmps108
  go_wp2_with fail
  refine cG.out.mono ?_
  rintro e w1 ⟨c, I, rfl, hg, hb⟩
  have HG := Lib.hid hg; have HB := Lib.hid hb
  clear hg hb cG
  unfold TC.v
  go_wp2_with fail
  go_ret
  refine ⟨_, [c], [I], rfl, ⟨Sl.of1 (Bk.new _ _ _), ⟨((HG.out.2.2.2.2 (by have := hIl.out; omega)).ext (bal (Below.refl _ _))), trivial⟩, .inl rfl, by simp [HG.out.1], fun S hS J hJ => ?_⟩, bal HB.out⟩
  simp at hJ
  subst hJ
  exact HG.out.2.1 S hS

set_option maxHeartbeats 2000000 in
set_option maxRecDepth 100000 in
theorem fold_five {G : Ar} (h : Nat) (hh : h ≤ 14) (v : Value) (l : List TC) (Is : List PI) (w : World) (hsl : Sl tcE w v l) (ha : All2 (KV G FT w h) l Is) (h5 : l.length = 5) :
    Calls Tryz.prog 108 #[v] w fun e w' => ∃ v' l' Is', e = .returned v' ∧ FoldV G w' h Is v' l' Is' ∧ Below w.heap.size w w' := by
  have hIl := Lib.hid ha.len
  obtain ⟨A, cap, rfl, hc1, hc2, h4⟩ := id hsl
  obtain ⟨b, off, rfl, hb, -⟩ := h4 (by omega)
  have g1 := fun W (p : Below w.heap.size w W) => group_any h hh _ (l.take 3) (Is.take 3) W ((hsl.takeS 3 (by omega)).ext p) (KVs.ext (ha.take 3) p) (by rw [List.length_take]; omega)
  have g2 := fun W (p : Below w.heap.size w W) => group_any h hh _ (l.drop 3) (Is.drop 3) W ((hsl.dropS 3 (by omega) (some ⟨b, off + 21, none⟩) (fun _ => rfl)).ext p) (KVs.ext (ha.drop 3) p) (by rw [List.length_drop]; omega)
  rw [h5] at g2
  rw [show 5 - 3 = 2 from rfl] at g2
  have hcap5 : 5 ≤ cap := by omega
  have hs1 : ∀ W, (Instr.slice 74 (.slice (some ⟨b, off, none⟩) 5 cap) none (some (.int .i64 3)) none).run Tryz.prog W = .ok (.slice (some ⟨b, off, none⟩) 3 cap) W := fun W => slT_h W _ 5 cap 3 (by omega)
  have hs2 : ∀ W, (Instr.slice 74 (.slice (some ⟨b, off, none⟩) 5 cap) (some (.int .i64 3)) none none).run Tryz.prog W = .ok (.slice (some ⟨b, off + 21, none⟩) 2 (cap - 3)) W := fun W => by
    have := slT_l W b off 5 cap 3 (by omega)
    rw [if_neg (by omega)] at this
    exact this
  have hB0 := Lib.hid (Below.refl w.heap.size w)
  rw [h5]
  have hci : (5 : Int) ≤ (cap : Int) := by omega
  unfold TC.v at g1 g2
  have G1 := Lib.hid g1; have G2 := Lib.hid g2; have H5 := Lib.hid h5
  unfold maxLen at hc2
  clear g1 g2 hsl ha h4 h5 hc1
  go_enter Tryz.func108, Tryz.ntmps108
  go_wp2_with fail
  have B0 := Lib.hid (bdr (Below.refl w.heap.size w))
  go_region_held3 (fun W => Hid (Below w.heap.size w W))
    (first | exact B0.out | exact Lib.hid (Below.refl _ _) | (refine Lib.hid (bcall B0.out ?_); assumption) | (apply Lib.hid; apply bcall; apply bcall; exact B0.out; assumption; assumption) | (apply Lib.hid; apply bal; apply bcall; apply bcall; exact B0.out; assumption; assumption))
    (first
      | (go_at_call 47; ((with_reducible refine (G1.out _ ?_).mono ?_); (first | exact B0.out | (refine bcall B0.out ?_; assumption)); rintro e w2 ⟨c1, I1, rfl, hg1, hb2⟩))
      | (go_at_call 47; ((with_reducible refine (G2.out _ ?_).mono ?_); (first | exact B0.out | (refine bcall B0.out ?_; assumption)); rintro e w2 ⟨c2, I2, rfl, hg2, hb2⟩)))
  all_goals
    have hBw : Below w.heap.size w w2 := by
      apply bcall; apply bcall; exact B0.out; assumption; assumption
    go_wp2_with fail
    go_ret
    have hg1' := hg1.ext hb2
    have h5 := H5.out
    have hIs : Is.length = 5 := by rw [← hIl.out, h5]
    refine ⟨_, [c1, c2], [I1, I2], rfl, ⟨Sl.of2 (Bk.new _ _ _), ⟨(hg1'.2.2.2.2 (by rw [List.length_take]; omega)).ext (bal (Below.refl _ _)), (hg2.2.2.2.2 (by rw [List.length_drop]; omega)).ext (bal (Below.refl _ _)), trivial⟩, .inr rfl, ?_, fun S hS J hJ => ?_⟩, bal hBw⟩
    · simp only [List.map_cons, List.map_nil, List.flatten_cons, List.flatten_nil, List.append_nil]
      rw [hg1'.1, hg2.1, ← List.flatten_append, ← List.map_append, List.take_append_drop]
    · simp only [List.mem_cons, List.not_mem_nil, or_false] at hJ
      rcases hJ with rfl | rfl
      · exact hg1'.2.1 S fun K hK => hS K (List.mem_of_mem_take hK)
      · exact hg2.2.1 S fun K hK => hS K (List.mem_of_mem_drop hK)

theorem fold_any {G : Ar} (h : Nat) (hh : h ≤ 14) (v : Value) (l : List TC) (Is : List PI) (w : World) (hsl : Sl tcE w v l) (ha : All2 (KV G FT w h) l Is) (h2 : 2 ≤ l.length) (h5 : l.length ≤ 5) :
    Calls Tryz.prog 108 #[v] w fun e w' => ∃ v' l' Is', e = .returned v' ∧ FoldV G w' h Is v' l' Is' ∧ Below w.heap.size w w' := by
  by_cases h4 : l.length ≤ 4
  · exact fold_one h hh v l Is w hsl ha h2 h4
  · exact fold_five h hh v l Is w hsl ha (by omega)

end Go.Proofs.YtclmjnobacepjaaGreat

/- plan.merge at plans of equal heights. -/
namespace Go.Proofs.YtclmjnobacepjaaGreat
open Go.RowKit

theorem catT_len {Ix Iy : PI} (h : (Ix.T ++ Iy.T).length ≤ 65536) : Ix.T.length ≤ 65536 ∧ Iy.T.length ≤ 65536 := by
  rw [List.length_append] at h; omega

set_option maxHeartbeats 1000000 in
set_option maxRecDepth 100000 in
theorem merge_zero (A : AF) (G : Ar) (cx cy : TC) (Ix Iy : PI) (w : World) (hA : ArM w A G) (qx : PV G FT w 0 cx Ix) (qy : PV G FT w 0 cy Iy) :
    Calls Tryz.prog 90 #[.pointer (some ⟨A.ba, 0, none⟩), cx.v, cy.v] w fun e w' => ∃ v l Is, e = .returned (.tuple #[v, .int .i64 0]) ∧ MrgV G w' 0 Ix Iy v l Is ∧ Below w.heap.size w w' := by
  have hx0 := qx.cht
  have hy0 := qy.cht
  have cL := fun W (p : Below w.heap.size w W) => leaves_any A G cx cy Ix Iy W (hA.ext p) (qx.ext p) (qy.ext p)
  unfold TC.v at *
  have CL := Lib.hid cL
  clear cL hA qx qy
  obtain ⟨xo, xh, xb, xr, xn, xt, xp, xl, xc⟩ := cx
  obtain ⟨yo, yh, yb, yr, yn, yt, yp, yl, yc⟩ := cy
  simp only at hx0 hy0 CL ⊢
  subst hx0 hy0
  have hz : ((0 : Nat) : Int) = 0 := rfl
  rw [hz] at CL ⊢
  clear hz
  go_enter Tryz.func90, Tryz.ntmps90
  go_wp2_with fail
  refine (CL.out _ (bal (bal (Below.refl _ _)))).mono ?_
  rintro e w1 ⟨v, l, Is, rfl, hm, hb⟩
  go_wp2_with fail
  go_ret2
  exact ⟨v, l, Is, rfl, hm, bcall (bal (bal (Below.refl _ _))) hb⟩

set_option maxHeartbeats 4000000 in
set_option maxRecDepth 100000 in
theorem merge_same (A : AF) (G : Ar) (h : Nat) (cx cy : TC) (Ix Iy : PI) (w : World) (hA : ArM w A G) (qx : PV G FT w (h + 1) cx Ix) (qy : PV G FT w (h + 1) cy Iy) (hT : (Ix.T ++ Iy.T).length ≤ 65536) :
    Calls Tryz.prog 90 #[.pointer (some ⟨A.ba, 0, none⟩), cx.v, cy.v] w fun e w' => ∃ v l Is, e = .returned (.tuple #[v, .int .i64 0]) ∧ MrgV G w' (h + 1) Ix Iy v l Is ∧ Below w.heap.size w w' := by
  have hx0 := qx.cht
  have hy0 := qy.cht
  obtain ⟨tx, ty⟩ := catT_len hT
  have h13 := qx.ht_le hA.ok tx
  have hG := Lib.hid (fun v (l : List TC) (Is : List PI) W (q : Sl tcE W v l) (a : All2 (KV G FT W h) l Is) (b : l.length ≤ 4) => group_any h (by omega) v l Is W q a b)
  have cX := fun W (p : Below w.heap.size w W) => children_any A G h cx Ix W (hA.ext p) (qx.ext p) tx
  have cY := fun W (p : Below w.heap.size w W) => children_any A G h cy Iy W (hA.ext p) (qy.ext p) ty
  have QX := Lib.hid (fun W (p : Below w.heap.size w W) => qx.ext p)
  have QY := Lib.hid (fun W (p : Below w.heap.size w W) => qy.ext p)
  have h14 : (h : Int) ≤ 14 := by omega
  unfold TC.v at *
  have CX := Lib.hid cX; have CY := Lib.hid cY
  clear cX cY hA qx qy tx ty hT h13
  obtain ⟨xo, xh, xb, xr, xn, xt, xp, xl, xc⟩ := cx
  obtain ⟨yo, yh, yb, yr, yn, yt, yp, yl, yc⟩ := cy
  simp only at hx0 hy0 CX CY ⊢
  subst hx0 hy0
  have hz : ((h + 1 : Nat) : Int) = (h : Int) + 1 := by omega
  rw [hz] at CX CY ⊢
  clear hz
  have h10 : ((h : Int) + 1 == 0) = false := by rw [beq_eq_false_iff_ne]; omega
  go_enter Tryz.func90, Tryz.ntmps90
  go_wp2_with fail
  refine (CX.out _ (bal (bal (Below.refl _ _)))).mono ?_
  rintro e w1 ⟨vx, lx, Jx, rfl, hKx, hb1⟩
  have T1 := Lib.hid (show (TwoB w w.heap.size (w.heap.size + 1) #[.int .u64 xo, .int .i64 ((h : Int) + 1), .int .i64 xb, .int .i64 xr, .int .i64 xn, .string ⟨xt.toArray⟩, .slice xp xl xc] #[.int .u64 yo, .int .i64 ((h : Int) + 1), .int .i64 yb, .int .i64 yr, .int .i64 yn, .string ⟨yt.toArray⟩, .slice yp yl yc] 76 76) w1 from TwoB.ext hb1 ⟨bal (bal (Below.refl _ _)), (Bk.new _ _ _).alloc, bal2' w⟩)
  obtain ⟨x0, x1, x2, x3, x4, x5, x6, -⟩ := T1.out.2.1.seven
  obtain ⟨y0, y1, y2, y3, y4, y5, y6, -⟩ := T1.out.2.2.seven
  have HKx := Lib.hid hKx
  obtain ⟨ax, capx, rfl, -⟩ := id hKx.1
  clear hKx hb1 CX
  go_wp2_with fail
  refine (CY.out _ T1.out.1).mono ?_
  rintro e w2 ⟨vy, ly, Jy, rfl, hKy, hb2⟩
  have T2 := Lib.hid (show (TwoB w w.heap.size (w.heap.size + 1) #[.int .u64 xo, .int .i64 ((h : Int) + 1), .int .i64 xb, .int .i64 xr, .int .i64 xn, .string ⟨xt.toArray⟩, .slice xp xl xc] #[.int .u64 yo, .int .i64 ((h : Int) + 1), .int .i64 yb, .int .i64 yr, .int .i64 yn, .string ⟨yt.toArray⟩, .slice yp yl yc] 76 76) w2 from T1.out.ext hb2)
  clear x0 x1 x2 x3 x4 x5 x6 y0 y1 y2 y3 y4 y5 y6
  obtain ⟨x0, x1, x2, x3, x4, x5, x6, -⟩ := T2.out.2.1.seven
  obtain ⟨y0, y1, y2, y3, y4, y5, y6, -⟩ := T2.out.2.2.seven
  have HKy := Lib.hid hKy
  obtain ⟨ay, capy, rfl, -⟩ := id hKy.1
  have HXS := Lib.hid (HKx.out.1.ext hb2)
  have HXA := Lib.hid (KVs.ext HKx.out.2.1 hb2)
  have lx2 : 2 ≤ lx.length := HKx.out.2.2.1
  have lx4 : lx.length ≤ 4 := HKx.out.2.2.2.1
  have ly2 : 2 ≤ ly.length := HKy.out.2.2.1
  have ly4 : ly.length ≤ 4 := HKy.out.2.2.2.1
  have lxi : (lx.length : Int) ≤ 4 := by omega
  have lyi : (ly.length : Int) ≤ 4 := by omega
  clear hKy hb2 CY
  by_cases h4 : lx.length + ly.length ≤ 4
  · have h4i : (lx.length : Int) + (ly.length : Int) ≤ 4 := by omega
    have hm := fun W : World => (World.ownsRow_made W #[] 0 (Nat.le_refl _) (by simp [maxLen]) (by simp) : Ow tcE (W.alloc (.cells #[] 76)) W.heap.size 76 (.slice (some ⟨W.heap.size, 0, none⟩) 0 0) [])
    have HM := Lib.hid hm; clear hm
    go_wp2_with (at_builtin; refine Hid.out ?_)
    refine Lib.hid ?_
    refine wpOwS _ tcOK rfl (.tmp 71) (.tmp 72) rfl w2.heap.size (by simp) _ [] rfl (HM.out w2) _ lx rfl (HXS.out.alloc _) (by simp; omega) ?_
    intro A5 c5 w5 hown5 hg5 _
    have hB5 := Lib.hid ((bal (Below.refl w2.heap.size w2)).grown hg5 (by simp) (fun k hk => by have := ((HM.out w2).lt k hk).1; omega))
    have HO5 := Lib.hid (show Ow tcE w5 w2.heap.size 76 (.slice A5 lx.length c5) lx from by simpa using hown5)
    rw [show ([] : List TC).length + lx.length = lx.length by simp]
    have HY5 := Lib.hid (HKy.out.1.ext hB5.out)
    clear hown5 hg5
    go_wp2_with (at_builtin; refine Hid.out ?_)
    refine Lib.hid ?_
    refine wpOwS _ tcOK rfl (.tmp 73) (.tmp 74) rfl w2.heap.size hB5.out.size _ lx rfl HO5.out _ ly rfl HY5.out (by omega) ?_
    intro A6 c6 w6 hown6 hg6 _
    have hB6 := Lib.hid (hB5.out.grown hg6 hB5.out.size (fun k hk => (HO5.out.lt k hk).1))
    have HO6 := Lib.hid (show Ow tcE w6 w2.heap.size 76 (.slice A6 (lx.length + ly.length) c6) (lx ++ ly) from hown6)
    have hA6 := (KVs.ext HXA.out hB6.out).append (KVs.ext HKy.out.2.1 hB6.out)
    have cg := hG.out _ (lx ++ ly) (Jx ++ Jy) w6 HO6.out.sl hA6 (by rw [List.length_append]; exact h4)
    unfold TC.v at cg
    have CG := Lib.hid cg
    clear hown6 hg6 cg hA6
    go_wp2_with fail
    refine CG.out.mono ?_
    rintro e w7 ⟨c7, I7, rfl, hg7, hb7⟩
    have HG7 := Lib.hid hg7
    have HB7 := Lib.hid (bcall T2.out.1 (bcall hB6.out hb7))
    clear hg7 hb7
    go_wp2_with fail
    go_ret2
    have e2 : 2 ≤ (Jx ++ Jy).length := by rw [List.length_append]; have := HKx.out.2.1.len; have := HKy.out.2.1.len; omega
    refine ⟨_, [c7], [I7], rfl, ⟨Sl.of1 (Bk.new _ _ _), ⟨(HG7.out.2.2.2.2 e2).ext (bal (Below.refl _ _)), trivial⟩, .inl rfl, ?_, fun S hS a b J hJ => ?_, fun q => by omega⟩, bal HB7.out⟩
    · simp only [List.map_cons, List.map_nil, List.flatten_cons, List.flatten_nil, List.append_nil]
      rw [HG7.out.1, List.map_append, List.flatten_append, HKx.out.2.2.2.2.1, HKy.out.2.2.2.2.1]
    · simp only [List.mem_cons, List.not_mem_nil, or_false] at hJ
      subst hJ
      refine HG7.out.2.1 S fun K hK => ?_
      rcases List.mem_append.1 hK with hK | hK
      · exact HKx.out.2.2.2.2.2 S hS a K hK
      · exact HKy.out.2.2.2.2.2 S hS b K hK
  · have h4i : (4 : Int) < (lx.length : Int) + (ly.length : Int) := by omega
    clear h4
    go_wp2_with fail
    go_ret2
    refine ⟨_, [⟨xo, h + 1, xb, xr, xn, xt, xp, xl, xc⟩, ⟨yo, h + 1, yb, yr, yn, yt, yp, yl, yc⟩], [Ix, Iy], rfl, ⟨Sl.of2 (Bk.new _ _ _), ⟨QX.out _ (bal T2.out.1), QY.out _ (bal T2.out.1), trivial⟩, .inr rfl, by simp, fun S hS a b J hJ => ?_, fun q => by omega⟩, bal T2.out.1⟩
    simp only [List.mem_cons, List.not_mem_nil, or_false] at hJ
    rcases hJ with rfl | rfl
    · exact a
    · exact b

end Go.Proofs.YtclmjnobacepjaaGreat
