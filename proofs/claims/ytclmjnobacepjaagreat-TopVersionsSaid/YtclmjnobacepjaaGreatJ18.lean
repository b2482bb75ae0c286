/- plan.concat. -/
import Derived.Test.YtclmjnobacepjaaGreatTMerge3
namespace Go.Proofs.YtclmjnobacepjaaGreat
open Go.RowKit

/-- seven cells are written -/
def wset7 (w : World) (b : Nat) (u0 u1 u2 u3 u4 u5 u6 : Value) : World := ((((((w.setCell ⟨b, 0, none⟩ u0).setCell ⟨b, 1, none⟩ u1).setCell ⟨b, 2, none⟩ u2).setCell ⟨b, 3, none⟩ u3).setCell ⟨b, 4, none⟩ u4).setCell ⟨b, 5, none⟩ u5).setCell ⟨b, 6, none⟩ u6
theorem bset7 {w W : World} {b : Nat} {u0 u1 u2 u3 u4 u5 u6 : Value} (h : Below w.heap.size w W) (hb : w.heap.size ≤ b) : Below w.heap.size w (wset7 W b u0 u1 u2 u3 u4 u5 u6) :=
  bset (bset (bset (bset (bset (bset (bset h hb) hb) hb) hb) hb) hb) hb
theorem wset7_other {w : World} {b k : Nat} {u0 u1 u2 u3 u4 u5 u6 : Value} (h : k ≠ b) : (wset7 w b u0 u1 u2 u3 u4 u5 u6).heap[k]? = w.heap[k]? := by
  unfold wset7
  repeat (rw [Below.heap_setCell _ _ _ _ h])
theorem wset7_size {w : World} {b : Nat} {u0 u1 u2 u3 u4 u5 u6 : Value} : (wset7 w b u0 u1 u2 u3 u4 u5 u6).heap.size = w.heap.size := by
  simp [wset7, World.setCell]
/-- a slice of two plans or more lies in no small block -/
theorem big_block {w : World} {v : Value} {l : List TC} {b g : Nat} {cs : Array Value} {t : TypeId} (hs : Sl tcE w v l) (h2 : 2 ≤ l.length) (hb : Bk w b cs t) (hc : cs.size ≤ 13) (hg : v.ownBlock = some g) : g ≠ b := by
  rintro rfl
  obtain ⟨A, cap, rfl, _, _, h4⟩ := hs
  obtain ⟨b', off, rfl, _, hcell⟩ := h4 (by omega)
  have e : b' = g := Option.some.inj hg
  subst e
  have := hcell 1 6 l[1] _ (List.getElem?_eq_getElem (by omega)) rfl
  rw [hb.cell] at this
  have h9 := (Array.getElem?_eq_some_iff.1 this).1
  have h10 : tcE.sz = 7 := rfl
  rw [h10] at h9
  omega
theorem PV.small {G : Ar} {F : Nat → Prop} {w W : World} {b : Nat} {cs : Array Value} {t : TypeId} (hb : Bk w b cs t) (hc : cs.size ≤ 13) (hs : w.heap.size ≤ W.heap.size) (ho : ∀ k, k ≠ b → k < w.heap.size → W.heap[k]? = w.heap[k]?) : ∀ {h : Nat} {c : TC} {I : PI}, PV G F w h c I → PV G F W h c I := by
  intro h
  induction h with
  | zero => intro c I q; exact q
  | succ h ih =>
    intro c I q
    rcases PV.succ.1 q with q | ⟨A, cap, l, Is, e, hsl, hF, h2, h4, ha, hI⟩
    · exact .inl q
    · exact .inr ⟨A, cap, l, Is, e, hsl.keepB hs (fun g hg => ho g (big_block hsl h2 hb hc hg) (sl_block hsl (by omega) hg)), hF, h2, h4, ha.imp (fun c I _ _ p => ⟨ih p.1, p.2⟩), hI⟩
theorem PV.set7 {G : Ar} {F : Nat → Prop} {w : World} {b : Nat} {cs : Array Value} {t : TypeId} {u0 u1 u2 u3 u4 u5 u6 : Value} (hb : Bk w b cs t) (hc : cs.size ≤ 13) {h : Nat} {c : TC} {I : PI} (q : PV G F w h c I) : PV G F (wset7 w b u0 u1 u2 u3 u4 u5 u6) h c I :=
  q.small hb hc (Nat.le_of_eq wset7_size.symm) (fun _ hk _ => wset7_other hk)
theorem PE.set7 {G : Ar} {F : Nat → Prop} {w : World} {b : Nat} {cs : Array Value} {t : TypeId} {u0 u1 u2 u3 u4 u5 u6 : Value} (hb : Bk w b cs t) (hc : cs.size ≤ 13) {c : TC} {I : PI} (q : PE G F w c I) : PE G F (wset7 w b u0 u1 u2 u3 u4 u5 u6) c I := by
  rcases q with q | ⟨h, q⟩
  · exact .inl q
  · exact .inr ⟨h, q.set7 hb hc⟩

/-- the plan of a concatenation -/
structure CatV (G : Ar) (w : World) (Ix Iy : PI) (c : TC) (I : PI) : Prop where
  pe : PE G FT w c I
  txt : I.T = Ix.T ++ Iy.T
  kin : ∀ S, Closed G S → KIn S Ix → KIn S Iy → KIn S I

theorem cat_of {G : Ar} {w : World} {Ix Iy : PI} {H : Nat} {v : Value} {l : List TC} {Is : List PI} {c : TC} {I : PI} (hm : MrgV G w H Ix Iy v l Is) {W : World} (hg : GrpV G W H Is c I) : CatV G W Ix Iy c I := by
  have hl := hm.pv.len
  refine ⟨?_, hg.1.trans hm.txt, fun S hS a b => hg.2.1 S (hm.kin S hS a b)⟩
  rcases hm.len with e | e
  · exact .inr ⟨_, (hg.2.2.2.1 (by omega)).2⟩
  · exact .inr ⟨_, hg.2.2.2.2 (by omega)⟩
theorem mrg_kv {G : Ar} {w : World} {Ix Iy : PI} {H : Nat} {v : Value} {l : List TC} {Is : List PI} (hm : MrgV G w H Ix Iy v l Is) (h2 : l.length = 2) : All2 (KV G FT w H) l Is :=
  hm.pv.imp fun c I _ hI p => ⟨p, fun e => hm.big e (.inl h2) I hI⟩
/-- group, where the one plan may be a short leaf -/
theorem group_mrg {G : Ar} (H : Nat) (hh : H ≤ 14) {Ix Iy : PI} {v : Value} {l : List TC} {Is : List PI} {w : World} (hm : MrgV G w H Ix Iy v l Is) :
    Calls Tryz.prog 47 #[v] w fun e w' => ∃ c I, e = .returned c.v ∧ CatV G w' Ix Iy c I ∧ Below w.heap.size w w' := by
  rcases hm.len with e | e
  · match l, Is, hm.pv.len, e, hm with
    | [c], [I], _, _, hm =>
      refine (group_one w v c hm.sl).mono fun e w' ⟨he, hb⟩ => ⟨c, I, he, ⟨.inr ⟨H, hm.pv.1.ext hb⟩, by simpa using hm.txt, fun S hS a b => hm.kin S hS a b I (by simp)⟩, hb⟩
  · refine (group_any H hh v l Is w hm.sl (mrg_kv hm e) (by omega)).mono fun e w' ⟨c, I, he, hg, hb⟩ => ⟨c, I, he, cat_of hm hg, hb⟩

end Go.Proofs.YtclmjnobacepjaaGreat

/- plan.concat: what it returns. -/
namespace Go.Proofs.YtclmjnobacepjaaGreat
open Go.RowKit

/-- two boxes and a result's cells -/
def ThreeB (w0 : World) (cs1 cs2 : Array Value) (W : World) : Prop := TwoB w0 w0.heap.size (w0.heap.size + 1) cs1 cs2 76 76 W ∧ Bk W (w0.heap.size + 1 + 1) #[.int .u64 0, .int .i64 0, .int .i64 0, .int .i64 0, .int .i64 0, .string ⟨#[]⟩, .slice none 0 0] 76
theorem ThreeB.ext {w0 W W' : World} {cs1 cs2 : Array Value} (hb : Below W.heap.size W W') (h : ThreeB w0 cs1 cs2 W) : ThreeB w0 cs1 cs2 W' := ⟨h.1.ext hb, h.2.ext hb h.2.lt⟩
theorem ThreeB.start (w : World) (cs1 cs2 : Array Value) : ThreeB w cs1 cs2 (((w.alloc (.cells cs1 76)).alloc (.cells cs2 76)).alloc (.cells #[.int .u64 0, .int .i64 0, .int .i64 0, .int .i64 0, .int .i64 0, .string ⟨#[]⟩, .slice none 0 0] 76)) := by
  refine ⟨⟨bal (bal (bal (Below.refl _ _))), (Bk.new _ _ _).alloc.alloc, (bal2' w).alloc⟩, ?_⟩
  have := Bk.new ((w.alloc (.cells cs1 76)).alloc (.cells cs2 76)) #[.int .u64 0, .int .i64 0, .int .i64 0, .int .i64 0, .int .i64 0, .string ⟨#[]⟩, .slice none 0 0] 76
  rwa [World.size_alloc, World.size_alloc] at this

set_option maxHeartbeats 2000000 in
set_option maxRecDepth 100000 in
theorem concat_x (A : AF) (G : Ar) (cy : TC) (Iy : PI) (w : World) (hA : ArM w A G) (qy : PE G FT w cy Iy) :
    Calls Tryz.prog 73 #[.pointer (some ⟨A.ba, 0, none⟩), TC.zero.v, cy.v] w fun e w' => ∃ c I, e = .returned (.tuple #[c.v, .int .i64 0]) ∧ CatV G w' PI.zero Iy c I ∧ Below w.heap.size w w' := by
  have cK := Lib.hid kindE
  have QY := Lib.hid (fun W (p : Below w.heap.size w W) => qy.ext p)
  rw [zero_v]
  clear hA qy
  unfold TC.v
  obtain ⟨yo, yh, yb, yr, yn, yt, yp, yl, yc⟩ := cy
  simp only
  go_enter Tryz.func73, Tryz.ntmps73
  go_wp2_with fail
  refine (cK.out _).mono ?_
  rintro e w1 ⟨rfl, hb1⟩
  have T1 := Lib.hid (ThreeB.ext hb1 (ThreeB.start w #[.int .u64 0, .int .i64 0, .int .i64 0, .int .i64 0, .int .i64 0, .string ⟨#[]⟩, .slice none 0 0] #[.int .u64 yo, .int .i64 yh, .int .i64 yb, .int .i64 yr, .int .i64 yn, .string ⟨yt.toArray⟩, .slice yp yl yc]))
  obtain ⟨y0, y1, y2, y3, y4, y5, y6, -⟩ := T1.out.1.2.2.seven
  obtain ⟨r0, r1, r2, r3, r4, r5, r6, f0, f1, f2, f3, f4, f5, f6⟩ := T1.out.2.seven
  have hz1 := T1.out.2.lt
  have hz2 : w.heap.size + 1 < w1.heap.size := by omega
  go_wp2_with fail
  refine bodyPost_ret (v := .tuple #[.agg #[.int .u64 yo, .int .i64 yh, .int .i64 yb, .int .i64 yr, .int .i64 yn, .string ⟨yt.toArray⟩, .slice yp yl yc], .int .i64 0]) (by simp [results, Tryz.results73, go_sem, r0, r1, r2, r3, r4, r5, r6]) rfl ⟨⟨yo, yh, yb, yr, yn, yt, yp, yl, yc⟩, Iy, rfl, ⟨(QY.out w1 T1.out.1.1).set7 T1.out.2 (by simp), rfl, fun S _ _ b => b⟩, bset7 T1.out.1.1 (by omega)⟩
set_option maxHeartbeats 2000000 in
set_option maxRecDepth 100000 in
theorem concat_y (A : AF) (G : Ar) (h : Nat) (cx : TC) (Ix : PI) (w : World) (hA : ArM w A G) (qx : PV G FT w h cx Ix) (hT : Ix.T.length ≤ 65536) :
    Calls Tryz.prog 73 #[.pointer (some ⟨A.ba, 0, none⟩), cx.v, TC.zero.v] w fun e w' => ∃ c I, e = .returned (.tuple #[c.v, .int .i64 0]) ∧ CatV G w' Ix PI.zero c I ∧ Below w.heap.size w w' := by
  have cK := Lib.hid kindE
  have cX := fun W => kind_pv hA.ok qx hT W
  have QX := Lib.hid (fun W (p : Below w.heap.size w W) => qx.ext p)
  rw [zero_v]
  unfold TC.v at *
  clear hA qx hT
  obtain ⟨xo, xh, xb, xr, xn, xt, xp, xl, xc⟩ := cx
  simp only at *
  obtain ⟨n, n2, n4, -, -, ck⟩ := cX (((w.alloc (.cells #[.int .u64 xo, .int .i64 xh, .int .i64 xb, .int .i64 xr, .int .i64 xn, .string ⟨xt.toArray⟩, .slice xp xl xc] 76)).alloc (.cells #[.int .u64 0, .int .i64 0, .int .i64 0, .int .i64 0, .int .i64 0, .string ⟨#[]⟩, .slice none 0 0] 76)).alloc (.cells #[.int .u64 0, .int .i64 0, .int .i64 0, .int .i64 0, .int .i64 0, .string ⟨#[]⟩, .slice none 0 0] 76))
  have hn1 : ((n : Int) == 1) = false := by rw [beq_eq_false_iff_ne]; omega
  have CK := Lib.hid ck
  clear ck cX n2 n4
  go_enter Tryz.func73, Tryz.ntmps73
  go_wp2_with fail
  refine CK.out.mono ?_
  rintro e w1 ⟨rfl, hb1⟩
  have T1 := Lib.hid (ThreeB.ext hb1 (ThreeB.start w #[.int .u64 xo, .int .i64 xh, .int .i64 xb, .int .i64 xr, .int .i64 xn, .string ⟨xt.toArray⟩, .slice xp xl xc] #[.int .u64 0, .int .i64 0, .int .i64 0, .int .i64 0, .int .i64 0, .string ⟨#[]⟩, .slice none 0 0]))
  obtain ⟨y0, y1, y2, y3, y4, y5, y6, -⟩ := T1.out.1.2.2.seven
  go_wp2_with fail
  refine (cK.out _).mono ?_
  rintro e w2 ⟨rfl, hb2⟩
  have T2 := Lib.hid (ThreeB.ext hb2 T1.out)
  obtain ⟨x0, x1, x2, x3, x4, x5, x6, -⟩ := T2.out.1.2.1.seven
  obtain ⟨r0, r1, r2, r3, r4, r5, r6, f0, f1, f2, f3, f4, f5, f6⟩ := T2.out.2.seven
  have hz1 := T2.out.2.lt
  have hz2 : w.heap.size < w2.heap.size := by omega
  go_wp2_with fail
  refine bodyPost_ret (v := .tuple #[.agg #[.int .u64 xo, .int .i64 xh, .int .i64 xb, .int .i64 xr, .int .i64 xn, .string ⟨xt.toArray⟩, .slice xp xl xc], .int .i64 0]) (by simp [results, Tryz.results73, go_sem, r0, r1, r2, r3, r4, r5, r6]) rfl ⟨⟨xo, xh, xb, xr, xn, xt, xp, xl, xc⟩, Ix, rfl, ⟨.inr ⟨h, (QX.out w2 T2.out.1.1).set7 T2.out.2 (by simp)⟩, by simp [PI.zero], fun S _ a _ => a⟩, bset7 T2.out.1.1 (by omega)⟩
set_option maxHeartbeats 2000000 in
set_option maxRecDepth 100000 in
theorem concat_xy (A : AF) (G : Ar) (hx hy : Nat) (cx cy : TC) (Ix Iy : PI) (w : World) (hA : ArM w A G) (qx : PV G FT w hx cx Ix) (qy : PV G FT w hy cy Iy) (hT : (Ix.T ++ Iy.T).length ≤ 65536) :
    Calls Tryz.prog 73 #[.pointer (some ⟨A.ba, 0, none⟩), cx.v, cy.v] w fun e w' => ∃ c I, e = .returned (.tuple #[c.v, .int .i64 0]) ∧ CatV G w' Ix Iy c I ∧ Below w.heap.size w w' := by
  obtain ⟨tx, ty⟩ := catT_len hT
  have cX := fun W => kind_pv hA.ok qx tx W
  have cY := fun W => kind_pv hA.ok qy ty W
  have cM := fun W (p : Below w.heap.size w W) => merge_any A G (hx + hy) hx hy (Nat.le_refl _) cx cy Ix Iy W (hA.ext p) (qx.ext p) (qy.ext p) hT
  have hm14 : max hx hy ≤ 14 := by
    have := qx.ht_le hA.ok tx
    have := qy.ht_le hA.ok ty
    omega
  have cG := Lib.hid (fun v (l : List TC) (Is : List PI) W (m : MrgV G W (max hx hy) Ix Iy v l Is) => group_mrg (max hx hy) hm14 m)
  unfold TC.v at *
  have CM := Lib.hid cM
  clear hA qx qy hT tx ty cM hm14
  obtain ⟨xo, xh, xb, xr, xn, xt, xp, xl, xc⟩ := cx
  obtain ⟨yo, yh, yb, yr, yn, yt, yp, yl, yc⟩ := cy
  simp only at *
  obtain ⟨n, n2, n4, -, -, ck⟩ := cX (((w.alloc (.cells #[.int .u64 xo, .int .i64 xh, .int .i64 xb, .int .i64 xr, .int .i64 xn, .string ⟨xt.toArray⟩, .slice xp xl xc] 76)).alloc (.cells #[.int .u64 yo, .int .i64 yh, .int .i64 yb, .int .i64 yr, .int .i64 yn, .string ⟨yt.toArray⟩, .slice yp yl yc] 76)).alloc (.cells #[.int .u64 0, .int .i64 0, .int .i64 0, .int .i64 0, .int .i64 0, .string ⟨#[]⟩, .slice none 0 0] 76))
  have hn1 : ((n : Int) == 1) = false := by rw [beq_eq_false_iff_ne]; omega
  have CK := Lib.hid ck
  have CY := Lib.hid cY
  clear ck cX n2 n4 cY
  go_enter Tryz.func73, Tryz.ntmps73
  go_wp2_with fail
  refine CK.out.mono ?_
  rintro e w1 ⟨rfl, hb1⟩
  have T1 := Lib.hid (ThreeB.ext hb1 (ThreeB.start w #[.int .u64 xo, .int .i64 xh, .int .i64 xb, .int .i64 xr, .int .i64 xn, .string ⟨xt.toArray⟩, .slice xp xl xc] #[.int .u64 yo, .int .i64 yh, .int .i64 yb, .int .i64 yr, .int .i64 yn, .string ⟨yt.toArray⟩, .slice yp yl yc]))
  obtain ⟨y0, y1, y2, y3, y4, y5, y6, -⟩ := T1.out.1.2.2.seven
  obtain ⟨n', n2', n4', -, -, ck'⟩ := CY.out w1
  have hn2 : ((n' : Int) == 1) = false := by rw [beq_eq_false_iff_ne]; omega
  have CK' := Lib.hid ck'
  clear ck' CY n2' n4' CK hb1
  go_wp2_with fail
  refine CK'.out.mono ?_
  rintro e w2 ⟨rfl, hb2⟩
  have T2 := Lib.hid (ThreeB.ext hb2 T1.out)
  obtain ⟨x0, x1, x2, x3, x4, x5, x6, -⟩ := T2.out.1.2.1.seven
  obtain ⟨y0, y1, y2, y3, y4, y5, y6, -⟩ := T2.out.1.2.2.seven
  clear hb2 CK'
  go_wp2_with fail
  refine (CM.out w2 T2.out.1.1).mono ?_
  rintro e w3 ⟨v3, l3, J3, rfl, hm3, hb3⟩
  have T3 := Lib.hid (ThreeB.ext hb3 T2.out)
  have HG := Lib.hid (cG.out v3 l3 J3 w3 hm3)
  obtain ⟨a3, c3, rfl, -⟩ := id hm3.sl
  clear hm3 hb3 CM cG
  go_wp2_with fail
  refine HG.out.mono ?_
  rintro e w4 ⟨c4, I4, rfl, hc4, hb4⟩
  have T4 := Lib.hid (ThreeB.ext hb4 T3.out)
  obtain ⟨r0, r1, r2, r3, r4, r5, r6, f0, f1, f2, f3, f4, f5, f6⟩ := T4.out.2.seven
  have hz1 := T4.out.2.lt
  have HC4 := Lib.hid hc4
  clear hc4 hb4 HG
  obtain ⟨zo, zh, zb, zr, zn, zt, zp, zl, zc⟩ := c4
  simp only
  go_wp2_with fail
  refine bodyPost_ret (v := .tuple #[.agg #[.int .u64 zo, .int .i64 zh, .int .i64 zb, .int .i64 zr, .int .i64 zn, .string ⟨zt.toArray⟩, .slice zp zl zc], .int .i64 0]) (by simp [results, Tryz.results73, go_sem, r0, r1, r2, r3, r4, r5, r6]) rfl ⟨⟨zo, zh, zb, zr, zn, zt, zp, zl, zc⟩, I4, rfl, ⟨HC4.out.pe.set7 T4.out.2 (by simp), HC4.out.txt, HC4.out.kin⟩, bset7 T4.out.1.1 (by omega)⟩

theorem concat_any (A : AF) (G : Ar) (cx cy : TC) (Ix Iy : PI) (w : World) (hA : ArM w A G) (qx : PE G FT w cx Ix) (qy : PE G FT w cy Iy) (hT : (Ix.T ++ Iy.T).length ≤ 65536) :
    Calls Tryz.prog 73 #[.pointer (some ⟨A.ba, 0, none⟩), cx.v, cy.v] w fun e w' => ∃ c I, e = .returned (.tuple #[c.v, .int .i64 0]) ∧ CatV G w' Ix Iy c I ∧ Below w.heap.size w w' := by
  obtain ⟨tx, ty⟩ := catT_len hT
  rcases qx with ⟨rfl, rfl⟩ | ⟨hx, qx⟩
  · exact concat_x A G cy Iy w hA qy
  · rcases qy with ⟨rfl, rfl⟩ | ⟨hy, qy⟩
    · exact concat_y A G hx cx Ix w hA qx tx
    · exact concat_xy A G hx hy cx cy Ix Iy w hA qx qy hT

end Go.Proofs.YtclmjnobacepjaaGreat

/- plan.cut at the ends of a plan and within a leaf. -/
namespace Go.Proofs.YtclmjnobacepjaaGreat
open Go.RowKit

/-- the two parts of a plan -/
structure SplV (G : Ar) (w : World) (I : PI) (n : Nat) (cl : TC) (Il : PI) (cr : TC) (Ir : PI) : Prop where
  pl : PE G FT w cl Il
  pr : PE G FT w cr Ir
  tl : Il.T = I.T.take n
  tr : Ir.T = I.T.drop n
  kin : ∀ S, Closed G S → KIn S I → KIn S Il ∧ KIn S Ir
/-- what cut says of a plan of this height -/
def CutSays (A : AF) (G : Ar) (h : Nat) : Prop := ∀ (c : TC) (I : PI) (n : Nat) (w : World), ArM w A G → PV G FT w h c I → I.T.length ≤ 65536 → n ≤ I.T.length →
    Calls Tryz.prog 72 #[.pointer (some ⟨A.ba, 0, none⟩), c.v, .int .i64 n] w fun e w' => ∃ cl Il cr Ir, e = .returned (.tuple #[cl.v, cr.v, .int .i64 0]) ∧ SplV G w' I n cl Il cr Ir ∧ Below w.heap.size w w'

/-- a box and two results' cells -/
def CutB (w0 : World) (cs : Array Value) (W : World) : Prop := Below w0.heap.size w0 W ∧ Bk W w0.heap.size cs 76 ∧ Bk W (w0.heap.size + 1) #[.int .u64 0, .int .i64 0, .int .i64 0, .int .i64 0, .int .i64 0, .string ⟨#[]⟩, .slice none 0 0] 76 ∧ Bk W (w0.heap.size + 1 + 1) #[.int .u64 0, .int .i64 0, .int .i64 0, .int .i64 0, .int .i64 0, .string ⟨#[]⟩, .slice none 0 0] 76
theorem CutB.ext {w0 W W' : World} {cs : Array Value} (hb : Below W.heap.size W W') (h : CutB w0 cs W) : CutB w0 cs W' := ⟨bcall h.1 hb, h.2.1.ext hb h.2.1.lt, h.2.2.1.ext hb h.2.2.1.lt, h.2.2.2.ext hb h.2.2.2.lt⟩
theorem CutB.start (w : World) (cs : Array Value) : CutB w cs (((w.alloc (.cells cs 76)).alloc (.cells #[.int .u64 0, .int .i64 0, .int .i64 0, .int .i64 0, .int .i64 0, .string ⟨#[]⟩, .slice none 0 0] 76)).alloc (.cells #[.int .u64 0, .int .i64 0, .int .i64 0, .int .i64 0, .int .i64 0, .string ⟨#[]⟩, .slice none 0 0] 76)) := by
  refine ⟨bal (bal (bal (Below.refl _ _))), (Bk.new _ _ _).alloc.alloc, (bal2' w).alloc, ?_⟩
  have := Bk.new ((w.alloc (.cells cs 76)).alloc (.cells #[.int .u64 0, .int .i64 0, .int .i64 0, .int .i64 0, .int .i64 0, .string ⟨#[]⟩, .slice none 0 0] 76)) #[.int .u64 0, .int .i64 0, .int .i64 0, .int .i64 0, .int .i64 0, .string ⟨#[]⟩, .slice none 0 0] 76
  rwa [World.size_alloc, World.size_alloc] at this
theorem PE.two {G : Ar} {w : World} {b b' : Nat} {cs cs' : Array Value} {t t' : TypeId} {u0 u1 u2 u3 u4 u5 u6 v0 v1 v2 v3 v4 v5 v6 : Value} {c : TC} {I : PI} (q : PE G FT w c I) (hb : Bk w b cs t) (hc : cs.size ≤ 13) (hb' : Bk w b' cs' t') (hc' : cs'.size ≤ 13) (hne : b ≠ b') : PE G FT (wset7 (wset7 w b u0 u1 u2 u3 u4 u5 u6) b' v0 v1 v2 v3 v4 v5 v6) c I :=
  (q.set7 hb hc).set7 (show Bk _ b' cs' t' from (wset7_other (Ne.symm hne)).trans hb') hc'

set_option maxHeartbeats 1000000 in
set_option maxRecDepth 100000 in
theorem cut_zero (A : AF) (G : Ar) (c : TC) (I : PI) (w : World) (q : PE G FT w c I) :
    Calls Tryz.prog 72 #[.pointer (some ⟨A.ba, 0, none⟩), c.v, .int .i64 0] w fun e w' => ∃ cl Il cr Ir, e = .returned (.tuple #[cl.v, cr.v, .int .i64 0]) ∧ SplV G w' I 0 cl Il cr Ir ∧ Below w.heap.size w w' := by
  unfold TC.v
  have Q := Lib.hid q
  clear q
  obtain ⟨xo, xh, xb, xr, xn, xt, xp, xl, xc⟩ := c
  simp only
  go_enter Tryz.func72, Tryz.ntmps72
  go_upto_region 2 with (fail)
  have T0 := Lib.hid (CutB.start w #[.int .u64 xo, .int .i64 xh, .int .i64 xb, .int .i64 xr, .int .i64 xn, .string ⟨xt.toArray⟩, .slice xp xl xc])
  generalize (((w.alloc (.cells #[.int .u64 xo, .int .i64 xh, .int .i64 xb, .int .i64 xr, .int .i64 xn, .string ⟨xt.toArray⟩, .slice xp xl xc] 76)).alloc (.cells #[.int .u64 0, .int .i64 0, .int .i64 0, .int .i64 0, .int .i64 0, .string ⟨#[]⟩, .slice none 0 0] 76)).alloc (.cells #[.int .u64 0, .int .i64 0, .int .i64 0, .int .i64 0, .int .i64 0, .string ⟨#[]⟩, .slice none 0 0] 76)) = W0 at *
  obtain ⟨x0, x1, x2, x3, x4, x5, x6, -⟩ := T0.out.2.1.seven
  obtain ⟨y0, y1, y2, y3, y4, y5, y6, f0, f1, f2, f3, f4, f5, f6⟩ := T0.out.2.2.1.seven
  obtain ⟨z0, z1, z2, z3, z4, z5, z6, g0, g1, g2, g3, g4, g5, g6⟩ := T0.out.2.2.2.seven
  go_region
  all_goals
    go_wp2_with fail
    refine bodyPost_ret (v := .tuple #[.agg #[.int .u64 0, .int .i64 0, .int .i64 0, .int .i64 0, .int .i64 0, .string ⟨#[]⟩, .slice none 0 0], .agg #[.int .u64 xo, .int .i64 xh, .int .i64 xb, .int .i64 xr, .int .i64 xn, .string ⟨xt.toArray⟩, .slice xp xl xc], .int .i64 0]) (by simp [results, Tryz.results72, go_sem, y0, y1, y2, y3, y4, y5, y6, z0, z1, z2, z3, z4, z5, z6]) rfl ⟨TC.zero, PI.zero, ⟨xo, xh, xb, xr, xn, xt, xp, xl, xc⟩, I, rfl, ⟨.inl ⟨rfl, rfl⟩, ?_, by simp [PI.zero], by simp, fun S _ a => ⟨fun k hk => (by cases hk), a⟩⟩, ?_⟩
    · first
        | exact (((Q.out.ext T0.out.1).two T0.out.2.2.1 (by simp) T0.out.2.2.2 (by simp) (by omega)).ext (bdr (Below.refl _ _)))
        | exact (((Q.out.ext T0.out.1).two T0.out.2.2.2 (by simp) T0.out.2.2.1 (by simp) (by omega)).ext (bdr (Below.refl _ _)))
        | exact ((Q.out.ext T0.out.1).two T0.out.2.2.1 (by simp) T0.out.2.2.2 (by simp) (by omega))
        | exact ((Q.out.ext T0.out.1).two T0.out.2.2.2 (by simp) T0.out.2.2.1 (by simp) (by omega))
    · first
        | exact bdr (bset7 (bset7 T0.out.1 (by omega)) (by omega))
        | exact bset7 (bset7 T0.out.1 (by omega)) (by omega)

set_option maxHeartbeats 1000000 in
set_option maxRecDepth 100000 in
theorem cut_end (A : AF) (G : Ar) (hG : ArOK G) (h : Nat) (c : TC) (I : PI) (w : World) (q : PV G FT w h c I) (hT : I.T.length ≤ 65536) :
    Calls Tryz.prog 72 #[.pointer (some ⟨A.ba, 0, none⟩), c.v, .int .i64 I.T.length] w fun e w' => ∃ cl Il cr Ir, e = .returned (.tuple #[cl.v, cr.v, .int .i64 0]) ∧ SplV G w' I I.T.length cl Il cr Ir ∧ Below w.heap.size w w' := by
  have hp := (q.size hG).1
  have cB := fun W (p : Below w.heap.size w W) => bytes_any hG h c I W (q.ext p) (by omega)
  have Q := Lib.hid (fun W (p : Below w.heap.size w W) => (PE.ext (Or.inr ⟨h, q⟩ : PE G FT w c I) p))
  have hn0 : ((I.T.length : Int) == 0) = false := by rw [beq_eq_false_iff_ne]; omega
  unfold TC.v at *
  have CB := Lib.hid cB
  have HE := Lib.hid (show ∀ k, k = I.T.length → I.T.take k = I.T ∧ I.T.drop k = [] from fun k e => by subst e; simp)
  clear q hp cB hT
  obtain ⟨xo, xh, xb, xr, xn, xt, xp, xl, xc⟩ := c
  simp only at *
  generalize hlen : I.T.length = n at *
  have HL := Lib.hid hlen; clear hlen
  go_enter Tryz.func72, Tryz.ntmps72
  go_wp2_with fail
  refine (CB.out _ (bal (bal (bal (Below.refl _ _))))).mono ?_
  rintro e w1 ⟨rfl, hb1⟩
  have T1 := Lib.hid (CutB.ext hb1 (CutB.start w #[.int .u64 xo, .int .i64 xh, .int .i64 xb, .int .i64 xr, .int .i64 xn, .string ⟨xt.toArray⟩, .slice xp xl xc]))
  obtain ⟨x0, x1, x2, x3, x4, x5, x6, -⟩ := T1.out.2.1.seven
  obtain ⟨y0, y1, y2, y3, y4, y5, y6, f0, f1, f2, f3, f4, f5, f6⟩ := T1.out.2.2.1.seven
  obtain ⟨z0, z1, z2, z3, z4, z5, z6, g0, g1, g2, g3, g4, g5, g6⟩ := T1.out.2.2.2.seven
  go_wp2_with fail
  refine bodyPost_ret (v := .tuple #[.agg #[.int .u64 xo, .int .i64 xh, .int .i64 xb, .int .i64 xr, .int .i64 xn, .string ⟨xt.toArray⟩, .slice xp xl xc], .agg #[.int .u64 0, .int .i64 0, .int .i64 0, .int .i64 0, .int .i64 0, .string ⟨#[]⟩, .slice none 0 0], .int .i64 0]) (by simp [results, Tryz.results72, go_sem, y0, y1, y2, y3, y4, y5, y6, z0, z1, z2, z3, z4, z5, z6]) rfl ⟨⟨xo, xh, xb, xr, xn, xt, xp, xl, xc⟩, I, TC.zero, PI.zero, rfl, ⟨((Q.out _ T1.out.1).two T1.out.2.2.1 (by simp) T1.out.2.2.2 (by simp) (by omega)), .inl ⟨rfl, rfl⟩, (HE.out n rfl).1.symm, (HE.out n rfl).2.symm, fun S _ a => ⟨a, fun k hk => (by cases hk)⟩⟩, ?_⟩
  exact bset7 (bset7 T1.out.1 (by omega)) (by omega)

set_option maxHeartbeats 1000000 in
set_option maxRecDepth 100000 in
theorem cut_leaf (A : AF) (G : Ar) (c : TC) (I : PI) (n : Nat) (w : World) (hA : ArM w A G) (q : PV G FT w 0 c I) (h1 : 0 < n) (h2 : n < I.T.length) :
    Calls Tryz.prog 72 #[.pointer (some ⟨A.ba, 0, none⟩), c.v, .int .i64 n] w fun e w' => ∃ cl Il cr Ir, e = .returned (.tuple #[cl.v, cr.v, .int .i64 0]) ∧ SplV G w' I n cl Il cr Ir ∧ Below w.heap.size w w' := by
  have hp := pv0_len hA.ok q
  have hh := q.cht
  have cB := fun W (p : Below w.heap.size w W) => bytes_any hA.ok 0 c I W (q.ext p) (by omega)
  have cL := fun W (p : Below w.heap.size w W) => line_any A G FT c I W (hA.ext p) (q.ext p)
  have CC := Lib.hid (fun W => ccut_any I.T n W hp.1 hp.2 (by omega))
  have hn0 : ((n : Int) == 0) = false := by rw [beq_eq_false_iff_ne]; omega
  have hn1 : ((n : Int) == (I.T.length : Int)) = false := by rw [beq_eq_false_iff_ne]; omega
  unfold TC.v at *
  have CB := Lib.hid cB; have CL := Lib.hid cL
  have HE := Lib.hid (show 1 ≤ (I.T.take n).length ∧ (I.T.take n).length ≤ 16 ∧ 1 ≤ (I.T.drop n).length ∧ (I.T.drop n).length ≤ 16 from by rw [List.length_take, List.length_drop]; omega)
  clear q hp cB cL hA h1 h2
  obtain ⟨xo, xh, xb, xr, xn, xt, xp, xl, xc⟩ := c
  simp only at hh CB CL ⊢
  subst hh
  have hz : ((0 : Nat) : Int) = 0 := rfl
  rw [hz] at CB CL ⊢
  clear hz
  generalize hlen : I.T.length = m at *
  clear hlen
  go_enter Tryz.func72, Tryz.ntmps72
  go_wp2_with fail
  refine (CB.out _ (bal (bal (bal (Below.refl _ _))))).mono ?_
  rintro e w1 ⟨rfl, hb1⟩
  have T1 := Lib.hid (CutB.ext hb1 (CutB.start w #[.int .u64 xo, .int .i64 0, .int .i64 xb, .int .i64 xr, .int .i64 xn, .string ⟨xt.toArray⟩, .slice xp xl xc]))
  obtain ⟨x0, x1, x2, x3, x4, x5, x6, -⟩ := T1.out.2.1.seven
  go_wp2_with fail
  refine (CL.out _ T1.out.1).mono ?_
  rintro e w2 ⟨rfl, hb2⟩
  have T2 := Lib.hid (CutB.ext hb2 T1.out)
  go_wp2_with fail
  refine (CC.out _).mono ?_
  rintro e w3 ⟨rfl, nd, hw3⟩
  have T3 := Lib.hid (show CutB w #[.int .u64 xo, .int .i64 0, .int .i64 xb, .int .i64 xr, .int .i64 xn, .string ⟨xt.toArray⟩, .slice xp xl xc] w3 from by rw [hw3]; exact CutB.ext (bdrN (Below.refl _ _)) T2.out)
  clear hw3
  obtain ⟨y0, y1, y2, y3, y4, y5, y6, f0, f1, f2, f3, f4, f5, f6⟩ := T3.out.2.2.1.seven
  obtain ⟨z0, z1, z2, z3, z4, z5, z6, g0, g1, g2, g3, g4, g5, g6⟩ := T3.out.2.2.2.seven
  go_wp2_with fail
  refine bodyPost_ret (v := .tuple #[(lfC (I.T.take n)).v, (lfC (I.T.drop n)).v, .int .i64 0]) (by simp [results, Tryz.results72, go_sem, y0, y1, y2, y3, y4, y5, y6, z0, z1, z2, z3, z4, z5, z6, lfC_v]) rfl ⟨_, lfPI (I.T.take n), _, lfPI (I.T.drop n), rfl, ⟨.inr ⟨0, .inr ⟨rfl, HE.out.1, HE.out.2.1, rfl, rfl⟩⟩, .inr ⟨0, .inr ⟨rfl, HE.out.2.2.1, HE.out.2.2.2, rfl, rfl⟩⟩, rfl, rfl, fun S _ a => ⟨fun k hk => (by cases hk), fun k hk => (by cases hk)⟩⟩, ?_⟩
  exact bset7 (bset7 T3.out.1 (by omega)) (by omega)

end Go.Proofs.YtclmjnobacepjaaGreat
