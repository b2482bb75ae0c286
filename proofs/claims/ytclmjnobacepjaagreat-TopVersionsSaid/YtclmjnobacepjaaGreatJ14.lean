/- plan.leaves: two leaves merged. -/
import Derived.Test.YtclmjnobacepjaaGreatJ12
import Derived.Test.YtclmjnobacepjaaGreatJ13
import Derived.Deep.RegionHeld3
namespace Go.Proofs.YtclmjnobacepjaaGreat
open Go.RowKit

/-- the one or two plans that two plans become -/
structure MrgV (G : Ar) (w : World) (H : Nat) (Ix Iy : PI) (v : Value) (l : List TC) (Is : List PI) : Prop where
  sl : Sl tcE w v l
  pv : All2 (PV G FT w H) l Is
  len : l.length = 1 ∨ l.length = 2
  txt : (Is.map PI.T).flatten = Ix.T ++ Iy.T
  kin : ∀ S, Closed G S → KIn S Ix → KIn S Iy → ∀ J ∈ Is, KIn S J
  big : H = 0 → (l.length = 2 ∨ 8 ≤ (Ix.T ++ Iy.T).length) → ∀ J ∈ Is, 8 ≤ J.T.length
theorem All2.of_get {α β : Type} {P : α → β → Prop} : ∀ {l : List α} {m : List β}, l.length = m.length → (∀ (i : Nat) (a : α) (b : β), l[i]? = some a → m[i]? = some b → P a b) → All2 P l m
  | [], [], _, _ => trivial
  | [], _ :: _, h, _ => by simp at h
  | _ :: _, [], h, _ => by simp at h
  | a :: l, b :: m, h, q => ⟨q 0 a b rfl rfl, All2.of_get (by simpa using h) (fun i x y hx hy => q (i + 1) x y (by simpa using hx) (by simpa using hy))⟩

/-- two blocks as they were, and all that was before -/
def TwoB (w0 : World) (b1 b2 : Nat) (cs1 cs2 : Array Value) (t1 t2 : TypeId) (W : World) : Prop := Below w0.heap.size w0 W ∧ Bk W b1 cs1 t1 ∧ Bk W b2 cs2 t2
theorem TwoB.ext {w0 W W' : World} {b1 b2 : Nat} {cs1 cs2 : Array Value} {t1 t2 : TypeId} (hb : Below W.heap.size W W') (h : TwoB w0 b1 b2 cs1 cs2 t1 t2 W) : TwoB w0 b1 b2 cs1 cs2 t1 t2 W' :=
  ⟨bcall h.1 hb, h.2.1.ext hb h.2.1.lt, h.2.2.ext hb h.2.2.lt⟩
theorem TwoB.drew {w0 W : World} {b1 b2 : Nat} {cs1 cs2 : Array Value} {t1 t2 : TypeId} (h : TwoB w0 b1 b2 cs1 cs2 t1 t2 W) : TwoB w0 b1 b2 cs1 cs2 t1 t2 W.drew := h.ext (bdr (Below.refl _ _))
theorem TwoB.alloc {w0 W : World} {b1 b2 : Nat} {cs1 cs2 : Array Value} {t1 t2 : TypeId} (h : TwoB w0 b1 b2 cs1 cs2 t1 t2 W) (o : Obj) : TwoB w0 b1 b2 cs1 cs2 t1 t2 (W.alloc o) := h.ext (bal (Below.refl _ _))

theorem TwoB.mkE {w0 W W' : World} {b1 b2 : Nat} {cs1 cs2 : Array Value} {t1 t2 : TypeId} (hb : Below W.heap.size W W') (h1 : Below w0.heap.size w0 W) (h2 : Bk W b1 cs1 t1) (h3 : Bk W b2 cs2 t2) : TwoB w0 b1 b2 cs1 cs2 t1 t2 W' := TwoB.ext hb ⟨h1, h2, h3⟩
theorem TwoB.mkD {w0 W : World} {b1 b2 : Nat} {cs1 cs2 : Array Value} {t1 t2 : TypeId} (h1 : Below w0.heap.size w0 W) (h2 : Bk W b1 cs1 t1) (h3 : Bk W b2 cs2 t2) : TwoB w0 b1 b2 cs1 cs2 t1 t2 W.drew := TwoB.drew ⟨h1, h2, h3⟩
theorem TwoB.bel {w0 W : World} {b1 b2 : Nat} {cs1 cs2 : Array Value} {t1 t2 : TypeId} {P : Prop} (h : Hid (TwoB w0 b1 b2 cs1 cs2 t1 t2 W) ∧ P) : Below w0.heap.size w0 W := h.1.1
theorem TwoB.keepE {w0 W W' : World} {b1 b2 : Nat} {cs1 cs2 : Array Value} {t1 t2 : TypeId} {P : Prop} (hb : Below W.heap.size W W') (h : Hid (TwoB w0 b1 b2 cs1 cs2 t1 t2 W) ∧ P) : TwoB w0 b1 b2 cs1 cs2 t1 t2 W' := TwoB.ext hb h.1
theorem TwoB.keepD {w0 W : World} {b1 b2 : Nat} {cs1 cs2 : Array Value} {t1 t2 : TypeId} {P : Prop} (h : Hid (TwoB w0 b1 b2 cs1 cs2 t1 t2 W) ∧ P) : TwoB w0 b1 b2 cs1 cs2 t1 t2 W.drew := TwoB.drew h.1

def lfPI (T : List UInt8) : PI := ⟨T, [], 1⟩
theorem leaf_pv {G : Ar} {w : World} : ∀ (Ts : List (List UInt8)), (∀ T ∈ Ts, 1 ≤ T.length ∧ T.length ≤ 16) → All2 (PV G FT w 0) (Ts.map lfC) (Ts.map lfPI)
  | [], _ => trivial
  | T :: Ts, h => ⟨.inr ⟨rfl, (h T (by simp)).1, (h T (by simp)).2, rfl, rfl⟩, leaf_pv Ts fun S hS => h S (by simp [hS])⟩
theorem pv0_len {G : Ar} (hG : ArOK G) {F : Nat → Prop} {w : World} {c : TC} {I : PI} (q : PV G F w 0 c I) : 1 ≤ I.T.length ∧ I.T.length ≤ 16 := by
  have := q.size hG
  exact ⟨this.1, by simpa using this.2.2⟩

set_option maxHeartbeats 4000000 in
set_option maxRecDepth 100000 in
theorem leaves_two (A : AF) (G : Ar) (cx cy : TC) (Ix Iy : PI) (w : World) (hA : ArM w A G) (qx : PV G FT w 0 cx Ix) (qy : PV G FT w 0 cy Iy) (h1 : 16 < Ix.T.length + Iy.T.length) (h2 : 8 ≤ Ix.T.length) (h3 : 8 ≤ Iy.T.length) :
    Calls Tryz.prog 107 #[.pointer (some ⟨A.ba, 0, none⟩), cx.v, cy.v] w fun e w' => ∃ b, e = .returned (.tuple #[.slice (some ⟨b, 0, none⟩) 2 2, .int .i64 0]) ∧ Bk w' b (cx.cells ++ cy.cells).toArray 76 ∧ Below w.heap.size w w' := by
  have lx := pv0_len hA.ok qx
  have ly := pv0_len hA.ok qy
  have cX := fun W (p : Below w.heap.size w W) => bytes_any hA.ok 0 cx Ix W (qx.ext p) (by omega)
  have cY := fun W (p : Below w.heap.size w W) => bytes_any hA.ok 0 cy Iy W (qy.ext p) (by omega)
  have d1 : (16 : Int) < (Ix.T.length : Int) + (Iy.T.length : Int) := by omega
  have d2 : (8 : Int) ≤ (Ix.T.length : Int) := by omega
  have d3 : (8 : Int) ≤ (Iy.T.length : Int) := by omega
  have d4 : (Ix.T.length : Int) ≤ 16 := by omega
  have d5 : (Iy.T.length : Int) ≤ 16 := by omega
  unfold TC.v at *
  have CX := Lib.hid cX; have CY := Lib.hid cY
  clear cX cY hA qx qy lx ly h1 h2 h3
  generalize Ix.T.length = n at *
  generalize Iy.T.length = m at *
  unfold TC.cells
  obtain ⟨xo, xh, xb, xr, xn, xt, xp, xl, xc⟩ := cx
  obtain ⟨yo, yh, yb, yr, yn, yt, yp, yl, yc⟩ := cy
  simp only at *
  go_enter Tryz.func107, Tryz.ntmps107
  go_upto_region 1 with (fail)
  have hk1 := (Bk.new w #[.int .u64 xo, .int .i64 xh, .int .i64 xb, .int .i64 xr, .int .i64 xn, .string ⟨xt.toArray⟩, .slice xp xl xc] 76).alloc (o := .cells #[.int .u64 yo, .int .i64 yh, .int .i64 yb, .int .i64 yr, .int .i64 yn, .string ⟨yt.toArray⟩, .slice yp yl yc] 76)
  have hk2 := bal2' w (o := .cells #[.int .u64 xo, .int .i64 xh, .int .i64 xb, .int .i64 xr, .int .i64 xn, .string ⟨xt.toArray⟩, .slice xp xl xc] 76) (cs := #[.int .u64 yo, .int .i64 yh, .int .i64 yb, .int .i64 yr, .int .i64 yn, .string ⟨yt.toArray⟩, .slice yp yl yc]) (t := 76)
  have hB := Lib.hid (bal (bal (Below.refl w.heap.size w)) : Below w.heap.size w ((w.alloc (.cells #[.int .u64 xo, .int .i64 xh, .int .i64 xb, .int .i64 xr, .int .i64 xn, .string ⟨xt.toArray⟩, .slice xp xl xc] 76)).alloc (.cells #[.int .u64 yo, .int .i64 yh, .int .i64 yb, .int .i64 yr, .int .i64 yn, .string ⟨yt.toArray⟩, .slice yp yl yc] 76)))
  generalize (w.alloc (.cells #[.int .u64 xo, .int .i64 xh, .int .i64 xb, .int .i64 xr, .int .i64 xn, .string ⟨xt.toArray⟩, .slice xp xl xc] 76)).alloc (.cells #[.int .u64 yo, .int .i64 yh, .int .i64 yb, .int .i64 yr, .int .i64 yn, .string ⟨yt.toArray⟩, .slice yp yl yc] 76) = W0 at *
  have T0 := Lib.hid (show TwoB w w.heap.size (w.heap.size + 1) #[.int .u64 xo, .int .i64 xh, .int .i64 xb, .int .i64 xr, .int .i64 xn, .string ⟨xt.toArray⟩, .slice xp xl xc] #[.int .u64 yo, .int .i64 yh, .int .i64 yb, .int .i64 yr, .int .i64 yn, .string ⟨yt.toArray⟩, .slice yp yl yc] 76 76 W0 from ⟨hB.out, hk1, hk2⟩)
  have KS := Lib.hid (show ∀ W : World, TwoB w w.heap.size (w.heap.size + 1) #[.int .u64 xo, .int .i64 xh, .int .i64 xb, .int .i64 xr, .int .i64 xn, .string ⟨xt.toArray⟩, .slice xp xl xc] #[.int .u64 yo, .int .i64 yh, .int .i64 yb, .int .i64 yr, .int .i64 yn, .string ⟨yt.toArray⟩, .slice yp yl yc] 76 76 W → Hid (TwoB w w.heap.size (w.heap.size + 1) #[.int .u64 xo, .int .i64 xh, .int .i64 xb, .int .i64 xr, .int .i64 xn, .string ⟨xt.toArray⟩, .slice xp xl xc] #[.int .u64 yo, .int .i64 yh, .int .i64 yb, .int .i64 yr, .int .i64 yn, .string ⟨yt.toArray⟩, .slice yp yl yc] 76 76 W) ∧ W.cell? ⟨w.heap.size, 0, none⟩ = some (.int .u64 xo) ∧ W.cell? ⟨w.heap.size, 1, none⟩ = some (.int .i64 xh) ∧ W.cell? ⟨w.heap.size, 2, none⟩ = some (.int .i64 xb) ∧ W.cell? ⟨w.heap.size, 3, none⟩ = some (.int .i64 xr) ∧ W.cell? ⟨w.heap.size, 4, none⟩ = some (.int .i64 xn) ∧ W.cell? ⟨w.heap.size, 5, none⟩ = some (.string ⟨xt.toArray⟩) ∧ W.cell? ⟨w.heap.size, 6, none⟩ = some (.slice xp xl xc) ∧ W.cell? ⟨w.heap.size + 1, 0, none⟩ = some (.int .u64 yo) ∧ W.cell? ⟨w.heap.size + 1, 1, none⟩ = some (.int .i64 yh) ∧ W.cell? ⟨w.heap.size + 1, 2, none⟩ = some (.int .i64 yb) ∧ W.cell? ⟨w.heap.size + 1, 3, none⟩ = some (.int .i64 yr) ∧ W.cell? ⟨w.heap.size + 1, 4, none⟩ = some (.int .i64 yn) ∧ W.cell? ⟨w.heap.size + 1, 5, none⟩ = some (.string ⟨yt.toArray⟩) ∧ W.cell? ⟨w.heap.size + 1, 6, none⟩ = some (.slice yp yl yc) from fun W h => ⟨h, h.2.1.cell 0, h.2.1.cell 1, h.2.1.cell 2, h.2.1.cell 3, h.2.1.cell 4, h.2.1.cell 5, h.2.1.cell 6, h.2.2.cell 0, h.2.2.cell 1, h.2.2.cell 2, h.2.2.cell 3, h.2.2.cell 4, h.2.2.cell 5, h.2.2.cell 6⟩)
  clear hk1 hk2 hB
  go_region_held3 (fun W => Hid (TwoB w w.heap.size (w.heap.size + 1) #[.int .u64 xo, .int .i64 xh, .int .i64 xb, .int .i64 xr, .int .i64 xn, .string ⟨xt.toArray⟩, .slice xp xl xc] #[.int .u64 yo, .int .i64 yh, .int .i64 yb, .int .i64 yr, .int .i64 yn, .string ⟨yt.toArray⟩, .slice yp yl yc] 76 76 W) ∧ W.cell? ⟨w.heap.size, 0, none⟩ = some (.int .u64 xo) ∧ W.cell? ⟨w.heap.size, 1, none⟩ = some (.int .i64 xh) ∧ W.cell? ⟨w.heap.size, 2, none⟩ = some (.int .i64 xb) ∧ W.cell? ⟨w.heap.size, 3, none⟩ = some (.int .i64 xr) ∧ W.cell? ⟨w.heap.size, 4, none⟩ = some (.int .i64 xn) ∧ W.cell? ⟨w.heap.size, 5, none⟩ = some (.string ⟨xt.toArray⟩) ∧ W.cell? ⟨w.heap.size, 6, none⟩ = some (.slice xp xl xc) ∧ W.cell? ⟨w.heap.size + 1, 0, none⟩ = some (.int .u64 yo) ∧ W.cell? ⟨w.heap.size + 1, 1, none⟩ = some (.int .i64 yh) ∧ W.cell? ⟨w.heap.size + 1, 2, none⟩ = some (.int .i64 yb) ∧ W.cell? ⟨w.heap.size + 1, 3, none⟩ = some (.int .i64 yr) ∧ W.cell? ⟨w.heap.size + 1, 4, none⟩ = some (.int .i64 yn) ∧ W.cell? ⟨w.heap.size + 1, 5, none⟩ = some (.string ⟨yt.toArray⟩) ∧ W.cell? ⟨w.heap.size + 1, 6, none⟩ = some (.slice yp yl yc))
    (first | exact KS.out _ (TwoB.drew T0.out) | exact KS.out _ T0.out | (refine KS.out _ (TwoB.ext ?_ (TwoB.drew T0.out)); assumption) | (apply KS.out; apply TwoB.ext; assumption; apply TwoB.ext; assumption; exact TwoB.drew T0.out))
    (first
      | (go_at_call 70; ((with_reducible refine (CX.out _ ?_).mono ?_); (first | exact (TwoB.drew T0.out).1 | exact T0.out.1 | (refine bcall (TwoB.drew T0.out).1 ?_; assumption) | assumption); rintro e w2 ⟨rfl, hb2⟩))
      | (go_at_call 70; ((with_reducible refine (CY.out _ ?_).mono ?_); (first | exact (TwoB.drew T0.out).1 | exact T0.out.1 | (refine bcall (TwoB.drew T0.out).1 ?_; assumption) | assumption); rintro e w2 ⟨rfl, hb2⟩)))
  all_goals
    have TT : TwoB w w.heap.size (w.heap.size + 1) #[.int .u64 xo, .int .i64 xh, .int .i64 xb, .int .i64 xr, .int .i64 xn, .string ⟨xt.toArray⟩, .slice xp xl xc] #[.int .u64 yo, .int .i64 yh, .int .i64 yb, .int .i64 yr, .int .i64 yn, .string ⟨yt.toArray⟩, .slice yp yl yc] 76 76 w2 := by
      apply TwoB.ext; assumption; apply TwoB.ext; assumption; exact TwoB.drew T0.out
    go_wp2_with fail
    go_ret2
    exact ⟨_, rfl, Bk.new _ _ _, bal TT.1⟩

end Go.Proofs.YtclmjnobacepjaaGreat

/- plan.leaves: two leaves merged into one text's parts. -/
namespace Go.Proofs.YtclmjnobacepjaaGreat
open Go.RowKit

set_option maxHeartbeats 4000000 in
set_option maxRecDepth 100000 in
theorem leaves_join (A : AF) (G : Ar) (cx cy : TC) (Ix Iy : PI) (w : World) (hA : ArM w A G) (qx : PV G FT w 0 cx Ix) (qy : PV G FT w 0 cy Iy) (hc : Ix.T.length + Iy.T.length ≤ 16 ∨ Ix.T.length < 8 ∨ Iy.T.length < 8) :
    Calls Tryz.prog 107 #[.pointer (some ⟨A.ba, 0, none⟩), cx.v, cy.v] w fun e w' => ∃ v, e = .returned (.tuple #[v, .int .i64 0]) ∧ Sl tcE w' v ((joinL Ix.T Iy.T).map lfC) ∧ Below w.heap.size w w' := by
  have lx := pv0_len hA.ok qx
  have ly := pv0_len hA.ok qy
  have cX := fun W (p : Below w.heap.size w W) => bytes_any hA.ok 0 cx Ix W (qx.ext p) (by omega)
  have cY := fun W (p : Below w.heap.size w W) => bytes_any hA.ok 0 cy Iy W (qy.ext p) (by omega)
  have hci : (Ix.T.length : Int) + (Iy.T.length : Int) ≤ 16 ∨ ((16 : Int) < (Ix.T.length : Int) + (Iy.T.length : Int) ∧ (Ix.T.length : Int) < 8) ∨ ((16 : Int) < (Ix.T.length : Int) + (Iy.T.length : Int) ∧ (8 : Int) ≤ (Ix.T.length : Int) ∧ (Iy.T.length : Int) < 8) := by omega
  have cLx := fun W (p : Below w.heap.size w W) => line_any A G FT cx Ix W (hA.ext p) (qx.ext p)
  have cLy := fun W (p : Below w.heap.size w W) => line_any A G FT cy Iy W (hA.ext p) (qy.ext p)
  have cJ := fun W => cjoin_any Ix.T Iy.T W lx ly
  have hJ2 : (joinL Ix.T Iy.T).length ≤ 2 := by rcases joinL_len Ix.T Iy.T with e | e <;> omega
  have d4 : (Ix.T.length : Int) ≤ 16 := by omega
  have d5 : (Iy.T.length : Int) ≤ 16 := by omega
  unfold TC.v at *
  have CX := Lib.hid cX; have CY := Lib.hid cY; have CLX := Lib.hid cLx; have CLY := Lib.hid cLy; have CJ := Lib.hid cJ
  clear cX cY cLx cLy cJ hA qx qy lx ly hc
  generalize joinL Ix.T Iy.T = Ts at *
  generalize hn : Ix.T.length = n at *
  generalize hm : Iy.T.length = m at *
  generalize Ix.T = Tx at *
  generalize Iy.T = Ty at *
  clear hn hm
  obtain ⟨xo, xh, xb, xr, xn, xt, xp, xl, xc⟩ := cx
  obtain ⟨yo, yh, yb, yr, yn, yt, yp, yl, yc⟩ := cy
  simp only at *
  rcases hci with d1 | ⟨d1, d2⟩ | ⟨d1, d2, d3⟩
  all_goals
    go_enter Tryz.func107, Tryz.ntmps107
    go_upto_region 1 with (fail)
    have hk1 := (Bk.new w #[.int .u64 xo, .int .i64 xh, .int .i64 xb, .int .i64 xr, .int .i64 xn, .string ⟨xt.toArray⟩, .slice xp xl xc] 76).alloc (o := .cells #[.int .u64 yo, .int .i64 yh, .int .i64 yb, .int .i64 yr, .int .i64 yn, .string ⟨yt.toArray⟩, .slice yp yl yc] 76)
    have hk2 := bal2' w (o := .cells #[.int .u64 xo, .int .i64 xh, .int .i64 xb, .int .i64 xr, .int .i64 xn, .string ⟨xt.toArray⟩, .slice xp xl xc] 76) (cs := #[.int .u64 yo, .int .i64 yh, .int .i64 yb, .int .i64 yr, .int .i64 yn, .string ⟨yt.toArray⟩, .slice yp yl yc]) (t := 76)
    have hB := Lib.hid (bal (bal (Below.refl w.heap.size w)) : Below w.heap.size w ((w.alloc (.cells #[.int .u64 xo, .int .i64 xh, .int .i64 xb, .int .i64 xr, .int .i64 xn, .string ⟨xt.toArray⟩, .slice xp xl xc] 76)).alloc (.cells #[.int .u64 yo, .int .i64 yh, .int .i64 yb, .int .i64 yr, .int .i64 yn, .string ⟨yt.toArray⟩, .slice yp yl yc] 76)))
    generalize (w.alloc (.cells #[.int .u64 xo, .int .i64 xh, .int .i64 xb, .int .i64 xr, .int .i64 xn, .string ⟨xt.toArray⟩, .slice xp xl xc] 76)).alloc (.cells #[.int .u64 yo, .int .i64 yh, .int .i64 yb, .int .i64 yr, .int .i64 yn, .string ⟨yt.toArray⟩, .slice yp yl yc] 76) = W0 at *
    have T0 := Lib.hid (show TwoB w w.heap.size (w.heap.size + 1) #[.int .u64 xo, .int .i64 xh, .int .i64 xb, .int .i64 xr, .int .i64 xn, .string ⟨xt.toArray⟩, .slice xp xl xc] #[.int .u64 yo, .int .i64 yh, .int .i64 yb, .int .i64 yr, .int .i64 yn, .string ⟨yt.toArray⟩, .slice yp yl yc] 76 76 W0 from ⟨hB.out, hk1, hk2⟩)
    have KS := Lib.hid (show ∀ W : World, TwoB w w.heap.size (w.heap.size + 1) #[.int .u64 xo, .int .i64 xh, .int .i64 xb, .int .i64 xr, .int .i64 xn, .string ⟨xt.toArray⟩, .slice xp xl xc] #[.int .u64 yo, .int .i64 yh, .int .i64 yb, .int .i64 yr, .int .i64 yn, .string ⟨yt.toArray⟩, .slice yp yl yc] 76 76 W → Hid (TwoB w w.heap.size (w.heap.size + 1) #[.int .u64 xo, .int .i64 xh, .int .i64 xb, .int .i64 xr, .int .i64 xn, .string ⟨xt.toArray⟩, .slice xp xl xc] #[.int .u64 yo, .int .i64 yh, .int .i64 yb, .int .i64 yr, .int .i64 yn, .string ⟨yt.toArray⟩, .slice yp yl yc] 76 76 W) ∧ W.cell? ⟨w.heap.size, 0, none⟩ = some (.int .u64 xo) ∧ W.cell? ⟨w.heap.size, 1, none⟩ = some (.int .i64 xh) ∧ W.cell? ⟨w.heap.size, 2, none⟩ = some (.int .i64 xb) ∧ W.cell? ⟨w.heap.size, 3, none⟩ = some (.int .i64 xr) ∧ W.cell? ⟨w.heap.size, 4, none⟩ = some (.int .i64 xn) ∧ W.cell? ⟨w.heap.size, 5, none⟩ = some (.string ⟨xt.toArray⟩) ∧ W.cell? ⟨w.heap.size, 6, none⟩ = some (.slice xp xl xc) ∧ W.cell? ⟨w.heap.size + 1, 0, none⟩ = some (.int .u64 yo) ∧ W.cell? ⟨w.heap.size + 1, 1, none⟩ = some (.int .i64 yh) ∧ W.cell? ⟨w.heap.size + 1, 2, none⟩ = some (.int .i64 yb) ∧ W.cell? ⟨w.heap.size + 1, 3, none⟩ = some (.int .i64 yr) ∧ W.cell? ⟨w.heap.size + 1, 4, none⟩ = some (.int .i64 yn) ∧ W.cell? ⟨w.heap.size + 1, 5, none⟩ = some (.string ⟨yt.toArray⟩) ∧ W.cell? ⟨w.heap.size + 1, 6, none⟩ = some (.slice yp yl yc) from fun W h => ⟨h, h.2.1.cell 0, h.2.1.cell 1, h.2.1.cell 2, h.2.1.cell 3, h.2.1.cell 4, h.2.1.cell 5, h.2.1.cell 6, h.2.2.cell 0, h.2.2.cell 1, h.2.2.cell 2, h.2.2.cell 3, h.2.2.cell 4, h.2.2.cell 5, h.2.2.cell 6⟩)
    clear hk1 hk2 hB
    go_region_held3 (fun W => Hid (TwoB w w.heap.size (w.heap.size + 1) #[.int .u64 xo, .int .i64 xh, .int .i64 xb, .int .i64 xr, .int .i64 xn, .string ⟨xt.toArray⟩, .slice xp xl xc] #[.int .u64 yo, .int .i64 yh, .int .i64 yb, .int .i64 yr, .int .i64 yn, .string ⟨yt.toArray⟩, .slice yp yl yc] 76 76 W) ∧ W.cell? ⟨w.heap.size, 0, none⟩ = some (.int .u64 xo) ∧ W.cell? ⟨w.heap.size, 1, none⟩ = some (.int .i64 xh) ∧ W.cell? ⟨w.heap.size, 2, none⟩ = some (.int .i64 xb) ∧ W.cell? ⟨w.heap.size, 3, none⟩ = some (.int .i64 xr) ∧ W.cell? ⟨w.heap.size, 4, none⟩ = some (.int .i64 xn) ∧ W.cell? ⟨w.heap.size, 5, none⟩ = some (.string ⟨xt.toArray⟩) ∧ W.cell? ⟨w.heap.size, 6, none⟩ = some (.slice xp xl xc) ∧ W.cell? ⟨w.heap.size + 1, 0, none⟩ = some (.int .u64 yo) ∧ W.cell? ⟨w.heap.size + 1, 1, none⟩ = some (.int .i64 yh) ∧ W.cell? ⟨w.heap.size + 1, 2, none⟩ = some (.int .i64 yb) ∧ W.cell? ⟨w.heap.size + 1, 3, none⟩ = some (.int .i64 yr) ∧ W.cell? ⟨w.heap.size + 1, 4, none⟩ = some (.int .i64 yn) ∧ W.cell? ⟨w.heap.size + 1, 5, none⟩ = some (.string ⟨yt.toArray⟩) ∧ W.cell? ⟨w.heap.size + 1, 6, none⟩ = some (.slice yp yl yc))
      (first | exact KS.out _ (TwoB.drew T0.out) | exact KS.out _ T0.out | (refine KS.out _ (TwoB.ext ?_ (TwoB.drew T0.out)); assumption) | (apply KS.out; apply TwoB.ext; assumption; apply TwoB.ext; assumption; exact TwoB.drew T0.out))
      (first
        | (go_at_call 70; ((with_reducible refine (CX.out _ ?_).mono ?_); (first | exact (TwoB.drew T0.out).1 | exact T0.out.1 | (refine bcall (TwoB.drew T0.out).1 ?_; assumption) | assumption); rintro e w2 ⟨rfl, hb2⟩))
        | (go_at_call 70; ((with_reducible refine (CY.out _ ?_).mono ?_); (first | exact (TwoB.drew T0.out).1 | exact T0.out.1 | (refine bcall (TwoB.drew T0.out).1 ?_; assumption) | assumption); rintro e w2 ⟨rfl, hb2⟩)))
    all_goals
      have TT := Lib.hid (show TwoB w w.heap.size (w.heap.size + 1) #[.int .u64 xo, .int .i64 xh, .int .i64 xb, .int .i64 xr, .int .i64 xn, .string ⟨xt.toArray⟩, .slice xp xl xc] #[.int .u64 yo, .int .i64 yh, .int .i64 yb, .int .i64 yr, .int .i64 yn, .string ⟨yt.toArray⟩, .slice yp yl yc] 76 76 w2 from by
        apply TwoB.ext; assumption; apply TwoB.ext; assumption; exact TwoB.drew T0.out)
      obtain ⟨-, x0, x1, x2, x3, x4, x5, x6, y0, y1, y2, y3, y4, y5, y6⟩ := KS.out _ TT.out
      clear CX CY
      go_wp2_with fail
      refine (CLX.out _ TT.out.1).mono ?_
      rintro e w3 ⟨rfl, hb3⟩
      have TT3 := Lib.hid (TT.out.ext hb3)
      obtain ⟨-, x0, x1, x2, x3, x4, x5, x6, y0, y1, y2, y3, y4, y5, y6⟩ := KS.out _ TT3.out
      go_wp2_with fail
      refine (CLY.out _ TT3.out.1).mono ?_
      rintro e w4 ⟨rfl, hb4⟩
      have TT4 := Lib.hid (TT3.out.ext hb4)
      go_wp2_with fail
      refine (CJ.out _).mono ?_
      rintro e w5 ⟨v5, rfl, hS5, hb5⟩
      have HB5 := Lib.hid (bcall TT4.out.1 hb5)
      have HS5 := Lib.hid hS5
      obtain ⟨AA, cc, rfl, -⟩ := id hS5
      clear hb3 hb4 hb5 hS5 KS T0
      go_wp2_with fail
      go_loopw [14, 65] (fun vo i wr => ∃ (k : Nat) (A5 : Option Addr) (c5 : Nat), k ≤ Ts.length ∧ i = .int .i64 k ∧ vo = .slice A5 k c5 ∧ Hid (Ow tcE wr w5.heap.size 76 (.slice A5 k c5) ((Ts.map lfC).take k)) ∧ Hid (Below w5.heap.size w5 wr)) (fun _ i _ => Ts.length - (intOf i).toNat)
      case atStart => exact ⟨0, none, 0, by omega, rfl, rfl, Lib.hid (Ow.nil _ _ _ _), Lib.hid (Below.refl _ _)⟩
      case round =>
        obtain ⟨k, A5, c5, hk, rfl, rfl, hO, hB⟩ := hrel
        have hsz := hB.out.size
        by_cases hlt : k < Ts.length
        · obtain ⟨b, off, cap', hv, hb, hcc⟩ := HS5.out.str hlt
          obtain ⟨rfl, rfl⟩ : AA = some ⟨b, off, none⟩ ∧ cc = cap' := by injection hv with e1 e2 e3; exact ⟨e1, e3⟩
          have e0 := hcc wr hB.out
          have hki : (k : Int) < (Ts.length : Int) := by omega
          have htk := Lib.hid (show (Ts.map lfC).take (k + 1) = (Ts.map lfC).take k ++ [lfC Ts[k]] by rw [snoc_take _ k (by rw [List.length_map]; exact hlt), List.getElem_map])
          have hln := Lib.hid (show ((Ts.map lfC).take k).length = k by rw [List.length_take, List.length_map]; omega)
          have hk4 : k ≤ 4 := by omega
          clear hcc hv
          generalize Ts[k] = T at *
          go_wp2_with (at_builtin; refine Hid.out ?_)
          refine Lib.hid ?_
          refine wpOw1 _ tcOK rfl (.tmp 69) (.tmp 72) rfl w5.heap.size (by first | (simp; done) | (simp; omega)) _ ((Ts.map lfC).take k) rfl (hO.out.alloc _) (lfC T) wr.heap.size 1 rfl (new_cells _ _ _) (by rw [hln.out]; omega) ?_
          rw [hln.out]
          intro A8 c8 w8 hown8 hg8
          have HO8 := Lib.hid hown8
          have HB8 := Lib.hid ((hB.out.alloc (by omega) _).grown hg8 (by first | (simp; done) | (simp; omega)) (fun g hg => (hO.out.lt g hg).1))
          clear hown8 hg8 hO hB
          go_wp2_with fail
          go_roundw
          case rel => exact ⟨k + 1, A8, c8, by omega, by go_num, rfl, Lib.hid (by rw [htk.out]; exact HO8.out), HB8⟩
          case measure => simp [intOf]; omega
        · have hO' := hO.out
          rw [List.take_of_length_le (by rw [List.length_map]; omega)] at hO'
          have HO' := Lib.hid hO'
          clear hO' hO
          go_wp2
          go_ret2
          exact ⟨_, rfl, HO'.out.sl, HB5.out.trans (hB.out.mono HB5.out.size)⟩

end Go.Proofs.YtclmjnobacepjaaGreat
