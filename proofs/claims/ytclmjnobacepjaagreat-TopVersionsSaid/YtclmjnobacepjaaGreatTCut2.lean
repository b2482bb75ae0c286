/- plan.cut at an inner plan. -/
import Derived.Test.YtclmjnobacepjaaGreatJ18
import Derived.Deep.DeepCutAuto
namespace Go.Proofs.YtclmjnobacepjaaGreat
open Go.RowKit

theorem lenT_nil : lenT [] = 0 := rfl
theorem lenT_succ {Is : List PI} {k : Nat} {J : PI} (h : Is[k]? = some J) : lenT (Is.take (k + 1)) = lenT (Is.take k) + J.T.length := by
  rw [List.take_add_one, h]
  simp [lenT]
theorem lenT_at {Is : List PI} {k : Nat} {J : PI} (h : Is[k]? = some J) : lenT (Is.take k) + J.T.length ≤ lenT Is ∧ (k + 1 = Is.length → lenT (Is.take k) + J.T.length = lenT Is) := by
  have e := lenT_succ h
  have e2 : lenT Is = lenT (Is.take (k + 1)) + lenT (Is.drop (k + 1)) := by
    conv => lhs; rw [← List.take_append_drop (k + 1) Is]
    rw [lenT_app]
  refine ⟨by omega, fun q => ?_⟩
  rw [List.drop_of_length_le (by omega), lenT_nil] at e2
  omega
theorem cut_plain {Is : List PI} {k a n : Nat} {J : PI} (h : Is[k]? = some J) (he : lenT (Is.take k) + a = n) (ha : a ≤ J.T.length) :
    (Is.map PI.T).flatten.take n = ((Is.take k).map PI.T).flatten ++ J.T.take a ∧ (Is.map PI.T).flatten.drop n = J.T.drop a ++ ((Is.drop (k + 1)).map PI.T).flatten := by
  obtain ⟨hk, hg⟩ := List.getElem?_eq_some_iff.1 h
  have e : Is = Is.take k ++ J :: Is.drop (k + 1) := by
    conv => lhs; rw [← List.take_append_drop k Is, List.drop_eq_getElem_cons hk, hg]
  have e2 : (Is.map PI.T).flatten = ((Is.take k).map PI.T).flatten ++ (J.T ++ ((Is.drop (k + 1)).map PI.T).flatten) := by
    conv => lhs; rw [e]
    simp
  have e3 : ((Is.take k).map PI.T).flatten.length = n - a := by unfold lenT at he; omega
  rw [e2]
  subst he
  unfold lenT
  rw [List.take_length_add_append, List.drop_length_add_append, List.take_append_of_le_length ha, List.drop_append_of_le_length ha]
  exact ⟨rfl, rfl⟩
theorem cut_plain0 {Is : List PI} {k n : Nat} (he : lenT (Is.take k) = n) :
    (Is.map PI.T).flatten.take n = ((Is.take k).map PI.T).flatten ∧ (Is.map PI.T).flatten.drop n = ((Is.drop k).map PI.T).flatten := by
  have e2 : (Is.map PI.T).flatten = ((Is.take k).map PI.T).flatten ++ ((Is.drop k).map PI.T).flatten := by
    conv => lhs; rw [← List.take_append_drop k Is, List.map_append, List.flatten_append]
  rw [e2]
  subst he
  unfold lenT
  rw [List.take_left, List.drop_left]
  exact ⟨rfl, rfl⟩
theorem KIn.take {S : Nat → Prop} {Is : List PI} (h : ∀ J ∈ Is, KIn S J) (k : Nat) : ∀ J ∈ Is.take k, KIn S J := fun J hJ => h J (List.mem_of_mem_take hJ)
theorem KIn.drop {S : Nat → Prop} {Is : List PI} (h : ∀ J ∈ Is, KIn S J) (k : Nat) : ∀ J ∈ Is.drop k, KIn S J := fun J hJ => h J (List.mem_of_mem_drop hJ)
theorem GrpV.pe {G : Ar} {w : World} {h : Nat} {Is : List PI} {c : TC} {I : PI} (q : GrpV G w h Is c I) : PE G FT w c I := by
  rcases Nat.lt_or_ge Is.length 1 with e | e
  · exact .inl (q.2.2.1 (List.eq_nil_of_length_eq_zero (by omega)))
  · rcases Nat.lt_or_ge Is.length 2 with e2 | e2
    · exact .inr ⟨h, (q.2.2.2.1 (by omega)).2⟩
    · exact .inr ⟨h + 1, q.2.2.2.2 e2⟩

theorem bk_set7 {w : World} {b : Nat} {z0 z1 z2 z3 z4 z5 z6 : Value} {t : TypeId} (h : Bk w b #[z0, z1, z2, z3, z4, z5, z6] t) (u0 u1 u2 u3 u4 u5 u6 : Value) : Bk (wset7 w b u0 u1 u2 u3 u4 u5 u6) b #[u0, u1, u2, u3, u4, u5, u6] t := by
  unfold wset7
  simpa using ((((((h.set 0 u0).set 1 u1).set 2 u2).set 3 u3).set 4 u4).set 5 u5).set 6 u6
theorem GrpV.tx {G : Ar} {w : World} {h : Nat} {Is : List PI} {c : TC} {I : PI} (q : GrpV G w h Is c I) : I.T = (Is.map PI.T).flatten := q.1
/-- what stands while cut puts its results together -/
structure CutS (G : Ar) (h : Nat) (w0 : World) (v : Value) (l : List TC) (Is : List PI) (R6 R7 : Array Value) (Bs : List (Nat × Array Value)) (Ps : List (TC × PI)) (W : World) : Prop where
  below : Below w0.heap.size w0 W
  r6 : Bk W (w0.heap.size + 1) R6 76
  r7 : Bk W (w0.heap.size + 1 + 1) R7 76
  s6 : R6.size ≤ 13
  s7 : R7.size ≤ 13
  bs : ∀ p ∈ Bs, Bk W p.1 p.2 76 ∧ w0.heap.size + 2 < p.1
  sl : Sl tcE W v l
  l2 : 2 ≤ l.length
  kv : All2 (KV G FT W h) l Is
  ps : ∀ p ∈ Ps, PE G FT W p.1 p.2
section
variable {G : Ar} {h : Nat} {w0 W W' : World} {v : Value} {l : List TC} {Is : List PI} {R6 R7 : Array Value} {Bs : List (Nat × Array Value)} {Ps : List (TC × PI)}
theorem CutS.ext (hb : Below W.heap.size W W') (s : CutS G h w0 v l Is R6 R7 Bs Ps W) : CutS G h w0 v l Is R6 R7 Bs Ps W' :=
  ⟨bcall s.1 hb, s.2.ext hb s.2.lt, s.3.ext hb s.3.lt, s.4, s.5, fun p hp => ⟨(s.bs p hp).1.ext hb (s.bs p hp).1.lt, (s.bs p hp).2⟩, s.sl.ext hb, s.l2, KVs.ext s.kv hb, fun p hp => (s.ps p hp).ext hb⟩
theorem CutS.add (s : CutS G h w0 v l Is R6 R7 Bs Ps W) {c : TC} {I : PI} (q : PE G FT W c I) : CutS G h w0 v l Is R6 R7 Bs ((c, I) :: Ps) W :=
  ⟨s.1, s.2, s.3, s.4, s.5, s.6, s.7, s.8, s.9, fun p hp => (List.mem_cons.1 hp).elim (fun e => by rw [e]; exact q) (s.ps p)⟩
theorem CutS.sub (s : CutS G h w0 v l Is R6 R7 Bs Ps W) {Qs : List (TC × PI)} (hq : ∀ p ∈ Qs, p ∈ Ps) : CutS G h w0 v l Is R6 R7 Bs Qs W :=
  ⟨s.1, s.2, s.3, s.4, s.5, s.6, s.7, s.8, s.9, fun p hp => s.ps p (hq p hp)⟩
theorem CutS.p0 {c : TC} {I : PI} (s : CutS G h w0 v l Is R6 R7 Bs ((c, I) :: Ps) W) : PE G FT W c I := s.ps (c, I) (by simp)
theorem CutS.p1 {c : TC} {I : PI} {x : TC × PI} (s : CutS G h w0 v l Is R6 R7 Bs (x :: (c, I) :: Ps) W) : PE G FT W c I := s.ps (c, I) (by simp)
theorem CutS.p2 {c : TC} {I : PI} {x y : TC × PI} (s : CutS G h w0 v l Is R6 R7 Bs (x :: y :: (c, I) :: Ps) W) : PE G FT W c I := s.ps (c, I) (by simp)
theorem CutS.b0 {b : Nat} {B : Array Value} {Qs : List (Nat × Array Value)} (s : CutS G h w0 v l Is R6 R7 ((b, B) :: Qs) Ps W) : Bk W b B 76 := (s.bs (b, B) (by simp)).1
theorem CutS.b1 {x : Nat × Array Value} {b : Nat} {B : Array Value} {Qs : List (Nat × Array Value)} (s : CutS G h w0 v l Is R6 R7 (x :: (b, B) :: Qs) Ps W) : Bk W b B 76 := (s.bs (b, B) (by simp)).1
theorem Sl.small {w W : World} {b : Nat} {cs : Array Value} {t : TypeId} (hb : Bk w b cs t) (hc : cs.size ≤ 13) (hs : w.heap.size ≤ W.heap.size) (ho : ∀ k, k ≠ b → k < w.heap.size → W.heap[k]? = w.heap[k]?) (h2 : 2 ≤ l.length) (q : Sl tcE w v l) : Sl tcE W v l :=
  q.keepB hs (fun g hg => ho g (big_block q h2 hb hc hg) (sl_block q (by omega) hg))
variable {z0 z1 z2 z3 z4 z5 z6 : Value}
theorem CutS.set6 (s : CutS G h w0 v l Is #[z0, z1, z2, z3, z4, z5, z6] R7 Bs Ps W) (u0 u1 u2 u3 u4 u5 u6 : Value) : CutS G h w0 v l Is #[u0, u1, u2, u3, u4, u5, u6] R7 Bs Ps (((((((W.setCell ⟨w0.heap.size + 1, 0, none⟩ u0).setCell ⟨w0.heap.size + 1, 1, none⟩ u1).setCell ⟨w0.heap.size + 1, 2, none⟩ u2).setCell ⟨w0.heap.size + 1, 3, none⟩ u3).setCell ⟨w0.heap.size + 1, 4, none⟩ u4).setCell ⟨w0.heap.size + 1, 5, none⟩ u5).setCell ⟨w0.heap.size + 1, 6, none⟩ u6) := show CutS G h w0 v l Is #[u0, u1, u2, u3, u4, u5, u6] R7 Bs Ps (wset7 W (w0.heap.size + 1) u0 u1 u2 u3 u4 u5 u6) from
  ⟨bset7 s.1 (by omega), bk_set7 s.2 _ _ _ _ _ _ _, (wset7_other (by omega)).trans s.3, by simp, s.5, fun p hp => ⟨(wset7_other (by have := (s.bs p hp).2; omega)).trans (s.bs p hp).1, (s.bs p hp).2⟩, s.sl.small s.r6 (by simp) (Nat.le_of_eq wset7_size.symm) (fun _ hk _ => wset7_other hk) s.l2, s.l2, s.kv.imp fun _ _ _ _ p => ⟨p.1.set7 s.r6 (by simp), p.2⟩, fun p hp => (s.ps p hp).set7 s.r6 (by simp)⟩
theorem CutS.set7 (s : CutS G h w0 v l Is R6 #[z0, z1, z2, z3, z4, z5, z6] Bs Ps W) (u0 u1 u2 u3 u4 u5 u6 : Value) : CutS G h w0 v l Is R6 #[u0, u1, u2, u3, u4, u5, u6] Bs Ps (((((((W.setCell ⟨w0.heap.size + 1 + 1, 0, none⟩ u0).setCell ⟨w0.heap.size + 1 + 1, 1, none⟩ u1).setCell ⟨w0.heap.size + 1 + 1, 2, none⟩ u2).setCell ⟨w0.heap.size + 1 + 1, 3, none⟩ u3).setCell ⟨w0.heap.size + 1 + 1, 4, none⟩ u4).setCell ⟨w0.heap.size + 1 + 1, 5, none⟩ u5).setCell ⟨w0.heap.size + 1 + 1, 6, none⟩ u6) := show CutS G h w0 v l Is R6 #[u0, u1, u2, u3, u4, u5, u6] Bs Ps (wset7 W (w0.heap.size + 1 + 1) u0 u1 u2 u3 u4 u5 u6) from
  ⟨bset7 s.1 (by omega), (wset7_other (by omega)).trans s.2, bk_set7 s.3 _ _ _ _ _ _ _, s.4, by simp, fun p hp => ⟨(wset7_other (by have := (s.bs p hp).2; omega)).trans (s.bs p hp).1, (s.bs p hp).2⟩, s.sl.small s.r7 (by simp) (Nat.le_of_eq wset7_size.symm) (fun _ hk _ => wset7_other hk) s.l2, s.l2, s.kv.imp fun _ _ _ _ p => ⟨p.1.set7 s.r7 (by simp), p.2⟩, fun p hp => (s.ps p hp).set7 s.r7 (by simp)⟩
theorem CutS.spl (s : CutS G h w0 v l Is R6 R7 Bs Ps W) {I : PI} {n : Nat} {cl cr : TC} {Il Ir : PI} (hl : (cl, Il) ∈ Ps) (hr : (cr, Ir) ∈ Ps) (tl : Il.T = I.T.take n) (tr : Ir.T = I.T.drop n) (kin : ∀ S, Closed G S → KIn S I → KIn S Il ∧ KIn S Ir) : SplV G W I n cl Il cr Ir ∧ Below w0.heap.size w0 W :=
  ⟨⟨s.ps _ hl, s.ps _ hr, tl, tr, kin⟩, s.1⟩
end

set_option maxHeartbeats 4000000 in
set_option maxRecDepth 100000 in
theorem cut_inner (A : AF) (G : Ar) (h : Nat) (IH : CutSays A G h) (c : TC) (I : PI) (n : Nat) (w : World) (hA : ArM w A G) (q : PV G FT w (h + 1) c I) (hT : I.T.length ≤ 65536) (h1 : 0 < n) (h2 : n < I.T.length) :
    Calls Tryz.prog 72 #[.pointer (some ⟨A.ba, 0, none⟩), c.v, .int .i64 n] w fun e w' => ∃ cl Il cr Ir, e = .returned (.tuple #[cl.v, cr.v, .int .i64 0]) ∧ SplV G w' I n cl Il cr Ir ∧ Below w.heap.size w w' := by
  have hh := q.cht
  have h13 := q.ht_le hA.ok hT
  have cB := fun W (p : Below w.heap.size w W) => bytes_any hA.ok (h + 1) c I W (q.ext p) (by omega)
  have cK := fun W (p : Below w.heap.size w W) => children_any A G h c I W (hA.ext p) (q.ext p) hT
  have cb := fun c J W (q : PV G FT W h c J) (t : J.T.length ≤ 65536) => bytes_any hA.ok h c J W q (by omega)
  have cG := fun v (l : List TC) (Is : List PI) W (q : Sl tcE W v l) (a : All2 (KV G FT W h) l Is) (b : l.length ≤ 4) => group_any h (by omega) v l Is W q a b
  have cC := fun c J (m : Nat) W (p : Below w.heap.size w W) (q : PV G FT W h c J) (t : J.T.length ≤ 65536) (s : m ≤ J.T.length) => IH c J m W (hA.ext p) q t s
  have cT := fun cx cy Ix Iy W (p : Below w.heap.size w W) (qx : PE G FT W cx Ix) (qy : PE G FT W cy Iy) (t : (Ix.T ++ Iy.T).length ≤ 65536) => concat_any A G cx cy Ix Iy W (hA.ext p) qx qy t
  have hn0 : ((n : Int) == 0) = false := by rw [beq_eq_false_iff_ne]; omega
  have hn1 : ((n : Int) == (I.T.length : Int)) = false := by rw [beq_eq_false_iff_ne]; omega
  have hn6 : (n : Int) ≤ 65536 := by omega
  unfold TC.v at *
  have CB := Lib.hid cB; have CK := Lib.hid cK; have CG := Lib.hid cG; have CC := Lib.hid cC; have CT := Lib.hid cT; have Cb := Lib.hid cb
  have HT := Lib.hid hT; have HN := Lib.hid h2
  clear q cB cK cb cG cC cT hA h1 h2 IH hT h13
  obtain ⟨xo, xh, xb, xr, xn, xt, xp, xl, xc⟩ := c
  simp only at hh CB CK ⊢
  subst hh
  have hz : ((h + 1 : Nat) : Int) = (h : Int) + 1 := by omega
  rw [hz] at CB CK ⊢
  clear hz
  have h10 : ((h : Int) + 1 == 0) = false := by rw [beq_eq_false_iff_ne]; omega
  generalize hlen : I.T.length = m at *
  have HL := Lib.hid hlen
  clear hlen
  go_enter Tryz.func72, Tryz.ntmps72
  go_wp2_with fail
  refine (CB.out _ (bal (bal (bal (Below.refl _ _))))).mono ?_
  rintro e w1 ⟨rfl, hb1⟩
  have T1 := Lib.hid (CutB.ext hb1 (CutB.start w #[.int .u64 xo, .int .i64 ((h : Int) + 1), .int .i64 xb, .int .i64 xr, .int .i64 xn, .string ⟨xt.toArray⟩, .slice xp xl xc]))
  obtain ⟨x0, x1, x2, x3, x4, x5, x6, -⟩ := T1.out.2.1.seven
  go_wp2_with fail
  refine (CK.out _ T1.out.1).mono ?_
  rintro e w2 ⟨vy, l, Is, rfl, hK, hb2⟩
  have T2 := Lib.hid (CutB.ext hb2 T1.out)
  have lx2 : 2 ≤ l.length := hK.2.2.1
  have lx4 : l.length ≤ 4 := hK.2.2.2.1
  have hlI := Lib.hid hK.2.1.len
  obtain ⟨b, off, cap, hv, hb, -⟩ := hK.1.tc (k := 0) (by omega)
  subst hv
  have HK := Lib.hid hK
  have HB2 := Lib.hid T2.out.1
  have hlen : lenT Is = m := by rw [lenT, ← hK.2.2.2.2.1]; exact HL.out
  have HLT := Lib.hid hlen
  clear hb1 hb2 hK CB CK T1 x0 x1 x2 x3 x4 x5 x6 hlen
  go_wp2_with fail
  go_loopw [2, 14] (fun va vk wr => ∃ (k a : Nat), k < l.length ∧ a ≤ 65536 ∧ va = .int .i64 a ∧ vk = .int .i64 k ∧ Hid (lenT (Is.take k) + a = n) ∧ Hid (Below w2.heap.size w2 wr)) (fun _ vk _ => l.length - (intOf vk).toNat)
  case atStart => exact ⟨0, n, by omega, by omega, rfl, rfl, Lib.hid (by simp [lenT]), Lib.hid (by first | exact Below.refl _ _ | exact bdr (Below.refl _ _))⟩
  case round =>
    obtain ⟨k, a, hk, ha, rfl, rfl, hE, hB⟩ := hrel
    obtain ⟨b', off', cap', hv, -, hcc⟩ := HK.out.1.tc (k := k) hk
    obtain ⟨rfl, rfl, rfl⟩ : b = b' ∧ off = off' ∧ cap = cap' := by injection hv with e1 e2 e3; injection e1 with e1; injection e1 with e4 e5; exact ⟨e4, e5, e3⟩
    obtain ⟨J, hJ, hP⟩ := HK.out.2.1.get (List.getElem?_eq_getElem hk)
    have HJ := Lib.hid hJ; have HP := Lib.hid hP
    obtain ⟨q0, q1, q2, q3, q4, q5, q6⟩ := hcc wr hB.out
    have HCC := Lib.hid hcc
    have hJT : J.T.length ≤ 65536 := by have := (lenT_at hJ).1; have := HLT.out; have := HT.out; omega
    have hbw : b < wr.heap.size := by have := hB.out.size; omega
    have cbk := fun W (p : Below w2.heap.size w2 W) => Cb.out l[k] J W (hP.1.ext p) hJT
    have CBK := Lib.hid cbk
    have CCK := Lib.hid (fun (a : Nat) W (p : Below w2.heap.size w2 W) (s : a ≤ J.T.length) => CC.out l[k] J a W (bcall HB2.out p) (HP.out.1.ext p) hJT s)
    have hki : (k : Int) < 4 := by omega
    clear hv hcc hJ hP cbk
    have hB' := hB.out
    obtain ⟨bz, hbz⟩ : ∃ bz, decide ((J.T.length : Int) ≤ (a : Int)) = bz := ⟨_, rfl⟩
    generalize hjl : J.T.length = jl at *
    have HJL := Lib.hid hjl
    generalize l[k] = m0 at *
    obtain ⟨mo, mh, mb, mr, mn, mt, mp, ml, mc⟩ := m0
    simp only at *
    by_cases hgo : (k : Int) + 1 < (l.length : Int) ∧ jl ≤ a
    · obtain ⟨hk1, hge⟩ := hgo
      have hge' : (jl : Int) ≤ (a : Int) := by omega
      go_wp2_with fail
      refine (CBK.out _ hB.out).mono ?_
      rintro e w3 ⟨rfl, hb3⟩
      have HB3 := Lib.hid (bcall hB.out hb3)
      obtain ⟨q0, q1, q2, q3, q4, q5, q6⟩ := HCC.out w3 HB3.out
      have hbw3 : b < w3.heap.size := by have := HB3.out.size; omega
      clear hb3 hB'
      go_wp2_with fail
      refine (CBK.out _ HB3.out).mono ?_
      rintro e w4 ⟨rfl, hb4⟩
      have HB4 := Lib.hid (bcall HB3.out hb4)
      clear hb4
      go_wp2_with fail
      go_roundw
      case rel =>
        refine ⟨k + 1, a - jl, by omega, by omega, ?_, by go_num, ?_, HB4⟩
        · go_num
        · have := lenT_succ HJ.out
          have := hE.out
          exact Lib.hid (by omega)
      case measure => simp [intOf]; omega
    · have HA := Lib.hid (show a < jl from by
        have := lenT_at HJ.out
        have := hE.out; have := hlI.out; have := HLT.out; have := HN.out
        omega)
      obtain ⟨cp1, cp2⟩ : l.length ≤ cap ∧ cap ≤ maxLen := by
        obtain ⟨A', cap', e, q1, q2, -⟩ := HK.out.1
        injection e with e1 e2 e3
        exact ⟨by omega, by omega⟩
      unfold maxLen at cp2
      have hsh : ∀ W, (Instr.slice 74 (.slice (some ⟨b, off, none⟩) l.length cap) none (some (.int .i64 k)) none).run Tryz.prog W = .ok (.slice (some ⟨b, off, none⟩) k cap) W := fun W => slT_h W _ _ cap k (by omega)
      have hsd : ∀ W, (Instr.slice 74 (.slice (some ⟨b, off, none⟩) l.length cap) (some (.int .i64 k)) none none).run Tryz.prog W = .ok (.slice (some ⟨b, off + k * 7, none⟩) (l.length - k) (cap - k)) W := fun W => by
        have := slT_l W b off l.length cap k (by omega)
        rw [if_neg (by omega)] at this; exact this
      obtain ⟨Ak, hsk, hAk⟩ : ∃ Ak, (∀ W, (Instr.slice 74 (.slice (some ⟨b, off, none⟩) l.length cap) (some (.int .i64 ((k : Int) + 1))) none none).run Tryz.prog W = .ok (.slice Ak (l.length - (k + 1)) (cap - (k + 1))) W) ∧ (k + 1 < l.length → Ak = some ⟨b, off + (k + 1) * 7, none⟩) :=
        ⟨_, fun W => slT_l W b off l.length cap (k + 1) (by omega), fun q => by rw [if_neg (by omega)]⟩
      have HAK := Lib.hid hAk
      have hwk : IntKind.i64.wrap ((k : Int) + 1) = (k : Int) + 1 := IntWalk.i64_in ((k : Int) + 1) ⟨by omega, by omega⟩
      clear hAk
      have CG1 := Lib.hid (fun (R6 R7 : Array Value) (Bs : List (Nat × Array Value)) (Ps : List (TC × PI)) (W : World) (s : CutS G h w (.slice (some ⟨b, off, none⟩) l.length cap) l Is R6 R7 Bs Ps W) => CG.out _ _ (Is.take k) W (s.sl.takeS k (by omega)) (s.kv.take k) (by rw [List.length_take]; omega))
      have CG2 := Lib.hid (fun (R6 R7 : Array Value) (Bs : List (Nat × Array Value)) (Ps : List (TC × PI)) (W : World) (s : CutS G h w (.slice (some ⟨b, off, none⟩) l.length cap) l Is R6 R7 Bs Ps W) => CG.out _ _ (Is.drop k) W (s.sl.dropS k (by omega) (some ⟨b, off + k * 7, none⟩) (fun _ => rfl)) (s.kv.drop k) (by rw [List.length_drop]; omega))
      have CG3 := Lib.hid (fun (R6 R7 : Array Value) (Bs : List (Nat × Array Value)) (Ps : List (TC × PI)) (W : World) (s : CutS G h w (.slice (some ⟨b, off, none⟩) l.length cap) l Is R6 R7 Bs Ps W) => CG.out _ _ (Is.drop (k + 1)) W (s.sl.dropS (k + 1) (by omega) Ak HAK.out) (s.kv.drop (k + 1)) (by rw [List.length_drop]; omega))
      have HT9 := Lib.hid (fun (W : World) (p : Below w2.heap.size w2 W) => (show CutS G h w (.slice (some ⟨b, off, none⟩) l.length cap) l Is #[.int .u64 0, .int .i64 0, .int .i64 0, .int .i64 0, .int .i64 0, .string ⟨#[]⟩, .slice none 0 0] #[.int .u64 0, .int .i64 0, .int .i64 0, .int .i64 0, .int .i64 0, .string ⟨#[]⟩, .slice none 0 0] [] [] W from
        have s := CutB.ext p T2.out
        ⟨s.1, s.2.2.1, s.2.2.2, by simp, by simp, fun _ h => (by cases h), HK.out.1.ext p, lx2, KVs.ext HK.out.2.1 p, fun _ h => (by cases h)⟩))
      go_upto_region 15 with (fail)
      go_cut [77] from 64 to 86 (fun v77 wx => v77 = .bool false ∧ Hid (Below w2.heap.size w2 wx))
      case first =>
        by_cases hk1 : (k : Int) + 1 < (l.length : Int)
        · have hlt : (a : Int) < (jl : Int) := by have := HA.out; omega
          go_wp2_with fail
          refine (CBK.out _ hB.out).mono ?_
          rintro e w3 ⟨rfl, hb3⟩
          have HB3 := Lib.hid (bcall hB.out hb3)
          go_wp2_with fail
          go_meet
          case rel => exact ⟨by rw [decide_eq_false (by omega)], HB3⟩
        · go_wp2_with fail
          go_meet
          case rel => exact ⟨rfl, hB⟩
      case rest =>
        obtain ⟨rfl, HB3⟩ := hcut
        obtain ⟨q0, q1, q2, q3, q4, q5, q6⟩ := HCC.out wc HB3.out
        have hbw3 : b < wc.heap.size := by have := HB3.out.size; omega
        clear hB' CBK
        go_upto_region 18 with (fail)
        by_cases ha0 : a = 0
        · subst ha0
          have S3 := Lib.hid ((HT9.out wc HB3.out).ext (bdr (Below.refl _ _)))
          go_upto_region 19 with (fail)
          go_region_law (first
            | (go_simp; go_at_call 47; (with_reducible refine (CG1.out _ _ _ _ _ (S3.out)).mono ?_); rintro e w5 ⟨c5, I5, rfl, hg5, hb5⟩; have HG5 := Lib.hid hg5; have S5 := Lib.hid (((S3.out).ext hb5).add hg5.pe); obtain ⟨y0, y1, y2, y3, y4, y5, y6, f0, f1, f2, f3, f4, f5, f6⟩ := S5.out.r6.seven; obtain ⟨z0, z1, z2, z3, z4, z5, z6, g0, g1, g2, g3, g4, g5, g6⟩ := S5.out.r7.seven; clear hg5 hb5)
            | (go_simp; go_at_call 47; (with_reducible refine (CG2.out _ _ _ _ _ (S3.out)).mono ?_); rintro e w6 ⟨c6, I6, rfl, hg6, hb6⟩; have HG6 := Lib.hid hg6; have S6 := Lib.hid (((S3.out).ext hb6).add hg6.pe); obtain ⟨y0, y1, y2, y3, y4, y5, y6, f0, f1, f2, f3, f4, f5, f6⟩ := S6.out.r6.seven; obtain ⟨z0, z1, z2, z3, z4, z5, z6, g0, g1, g2, g3, g4, g5, g6⟩ := S6.out.r7.seven; clear hg6 hb6)
            | (go_simp; go_at_call 47; (with_reducible refine (CG1.out _ _ _ _ _ (S6.out)).mono ?_); rintro e w5 ⟨c5, I5, rfl, hg5, hb5⟩; have HG5 := Lib.hid hg5; have S5 := Lib.hid (((S6.out).ext hb5).add hg5.pe); obtain ⟨y0, y1, y2, y3, y4, y5, y6, f0, f1, f2, f3, f4, f5, f6⟩ := S5.out.r6.seven; obtain ⟨z0, z1, z2, z3, z4, z5, z6, g0, g1, g2, g3, g4, g5, g6⟩ := S5.out.r7.seven; clear hg5 hb5)
            | (go_simp; go_at_call 47; (with_reducible refine (CG2.out _ _ _ _ _ (S5.out)).mono ?_); rintro e w6 ⟨c6, I6, rfl, hg6, hb6⟩; have HG6 := Lib.hid hg6; have S6 := Lib.hid (((S5.out).ext hb6).add hg6.pe); obtain ⟨y0, y1, y2, y3, y4, y5, y6, f0, f1, f2, f3, f4, f5, f6⟩ := S6.out.r6.seven; obtain ⟨z0, z1, z2, z3, z4, z5, z6, g0, g1, g2, g3, g4, g5, g6⟩ := S6.out.r7.seven; clear hg6 hb6)
            | (go_simp; go_at_call 47; (with_reducible refine (CG1.out _ _ _ _ _ (S6.out.set7 _ _ _ _ _ _ _)).mono ?_); rintro e w5 ⟨c5, I5, rfl, hg5, hb5⟩; have HG5 := Lib.hid hg5; have S5 := Lib.hid (((S6.out.set7 _ _ _ _ _ _ _).ext hb5).add hg5.pe); obtain ⟨y0, y1, y2, y3, y4, y5, y6, f0, f1, f2, f3, f4, f5, f6⟩ := S5.out.r6.seven; obtain ⟨z0, z1, z2, z3, z4, z5, z6, g0, g1, g2, g3, g4, g5, g6⟩ := S5.out.r7.seven; clear hg5 hb5)
            | (go_simp; go_at_call 47; (with_reducible refine (CG2.out _ _ _ _ _ (S5.out.set6 _ _ _ _ _ _ _)).mono ?_); rintro e w6 ⟨c6, I6, rfl, hg6, hb6⟩; have HG6 := Lib.hid hg6; have S6 := Lib.hid (((S5.out.set6 _ _ _ _ _ _ _).ext hb6).add hg6.pe); obtain ⟨y0, y1, y2, y3, y4, y5, y6, f0, f1, f2, f3, f4, f5, f6⟩ := S6.out.r6.seven; obtain ⟨z0, z1, z2, z3, z4, z5, z6, g0, g1, g2, g3, g4, g5, g6⟩ := S6.out.r7.seven; clear hg6 hb6)
            )
          all_goals
            go_wp2_with fail
            have hI := HK.out.2.2.2.2
            have hC := cut_plain0 (show lenT (Is.take k) = n from hE.out)
            refine bodyPost_ret (v := .tuple #[.agg #[.int .u64 c5.old, .int .i64 c5.ht, .int .i64 c5.b, .int .i64 c5.r, .int .i64 c5.n, .string ⟨c5.t.toArray⟩, .slice c5.kp c5.kl c5.kc], .agg #[.int .u64 c6.old, .int .i64 c6.ht, .int .i64 c6.b, .int .i64 c6.r, .int .i64 c6.n, .string ⟨c6.t.toArray⟩, .slice c6.kp c6.kl c6.kc], .int .i64 0]) (by simp [results, Tryz.results72, go_sem, y0, y1, y2, y3, y4, y5, y6, z0, z1, z2, z3, z4, z5, z6]) rfl ⟨c5, I5, c6, I6, rfl, ?_⟩
            have ht : I5.T = I.T.take n := HG5.out.1.trans (by rw [hI.1, hC.1])
            have hd : I6.T = I.T.drop n := HG6.out.1.trans (by rw [hI.1, hC.2])
            have hk := fun S (hS : Closed G S) (q : KIn S I) => (show KIn S I5 ∧ KIn S I6 from ⟨HG5.out.2.1 S (KIn.take (hI.2 S hS q) k), HG6.out.2.1 S (KIn.drop (hI.2 S hS q) k)⟩)
            first
              | with_reducible exact ((S6.out.set6 _ _ _ _ _ _ _).set7 _ _ _ _ _ _ _).spl (by simp) (by simp) ht hd hk
              | with_reducible exact ((S6.out.set7 _ _ _ _ _ _ _).set6 _ _ _ _ _ _ _).spl (by simp) (by simp) ht hd hk
              | with_reducible exact ((S5.out.set6 _ _ _ _ _ _ _).set7 _ _ _ _ _ _ _).spl (by simp) (by simp) ht hd hk
              | with_reducible exact ((S5.out.set7 _ _ _ _ _ _ _).set6 _ _ _ _ _ _ _).spl (by simp) (by simp) ht hd hk
              | with_reducible exact (S6.out.set7 _ _ _ _ _ _ _).spl (by simp) (by simp) ht hd hk
              | with_reducible exact (S5.out.set6 _ _ _ _ _ _ _).spl (by simp) (by simp) ht hd hk
        · have ha1 : ((a : Int) == 0) = false := by rw [beq_eq_false_iff_ne]; omega
          go_wp2_with fail
          refine (CCK.out a wc HB3.out (Nat.le_of_lt HA.out)).mono ?_
          rintro e w4 ⟨cl, Il, cr, Ir, rfl, hs, hb4⟩
          have HS := Lib.hid hs
          have S4 := Lib.hid ((((HT9.out wc HB3.out).ext hb4).add hs.pl).add hs.pr)
          clear hs hb4
          go_upto_region 23 with (fail)
          have SB := Lib.hid (show CutS G h w (.slice (some ⟨b, off, none⟩) l.length cap) l Is #[.int .u64 0, .int .i64 0, .int .i64 0, .int .i64 0, .int .i64 0, .string ⟨#[]⟩, .slice none 0 0] #[.int .u64 0, .int .i64 0, .int .i64 0, .int .i64 0, .int .i64 0, .string ⟨#[]⟩, .slice none 0 0] [(w4.heap.size, #[.int .u64 cl.old, .int .i64 cl.ht, .int .i64 cl.b, .int .i64 cl.r, .int .i64 cl.n, .string ⟨cl.t.toArray⟩, .slice cl.kp cl.kl cl.kc]), (w4.heap.size + 1, #[.int .u64 cr.old, .int .i64 cr.ht, .int .i64 cr.b, .int .i64 cr.r, .int .i64 cr.n, .string ⟨cr.t.toArray⟩, .slice cr.kp cr.kl cr.kc])] [(cr, Ir), (cl, Il)] ((w4.alloc (.cells #[.int .u64 cl.old, .int .i64 cl.ht, .int .i64 cl.b, .int .i64 cl.r, .int .i64 cl.n, .string ⟨cl.t.toArray⟩, .slice cl.kp cl.kl cl.kc] 76)).alloc (.cells #[.int .u64 cr.old, .int .i64 cr.ht, .int .i64 cr.b, .int .i64 cr.r, .int .i64 cr.n, .string ⟨cr.t.toArray⟩, .slice cr.kp cr.kl cr.kc] 76)) from by
            have s := (S4.out.ext (bal (Below.refl _ _) : Below w4.heap.size w4 (w4.alloc (.cells #[.int .u64 cl.old, .int .i64 cl.ht, .int .i64 cl.b, .int .i64 cl.r, .int .i64 cl.n, .string ⟨cl.t.toArray⟩, .slice cl.kp cl.kl cl.kc] 76)))).ext (bal (Below.refl _ _) : Below (w4.alloc (.cells #[.int .u64 cl.old, .int .i64 cl.ht, .int .i64 cl.b, .int .i64 cl.r, .int .i64 cl.n, .string ⟨cl.t.toArray⟩, .slice cl.kp cl.kl cl.kc] 76)).heap.size (w4.alloc (.cells #[.int .u64 cl.old, .int .i64 cl.ht, .int .i64 cl.b, .int .i64 cl.r, .int .i64 cl.n, .string ⟨cl.t.toArray⟩, .slice cl.kp cl.kl cl.kc] 76)) ((w4.alloc (.cells #[.int .u64 cl.old, .int .i64 cl.ht, .int .i64 cl.b, .int .i64 cl.r, .int .i64 cl.n, .string ⟨cl.t.toArray⟩, .slice cl.kp cl.kl cl.kc] 76)).alloc (.cells #[.int .u64 cr.old, .int .i64 cr.ht, .int .i64 cr.b, .int .i64 cr.r, .int .i64 cr.n, .string ⟨cr.t.toArray⟩, .slice cr.kp cr.kl cr.kc] 76)))
            have hw := S4.out.r7.lt
            refine ⟨s.1, s.2, s.3, s.4, s.5, fun p hp => ?_, s.7, s.8, s.9, s.10⟩
            rcases List.mem_cons.1 hp with rfl | hp
            · exact ⟨(Bk.new _ _ _).alloc, by show w.heap.size + 2 < w4.heap.size; omega⟩
            · rcases List.mem_cons.1 hp with rfl | hp
              · exact ⟨bal2' w4, by show w.heap.size + 2 < w4.heap.size + 1; omega⟩
              · cases hp)
          generalize ((w4.alloc (.cells #[.int .u64 cl.old, .int .i64 cl.ht, .int .i64 cl.b, .int .i64 cl.r, .int .i64 cl.n, .string ⟨cl.t.toArray⟩, .slice cl.kp cl.kl cl.kc] 76)).alloc (.cells #[.int .u64 cr.old, .int .i64 cr.ht, .int .i64 cr.b, .int .i64 cr.r, .int .i64 cr.n, .string ⟨cr.t.toArray⟩, .slice cr.kp cr.kl cr.kc] 76)) = W4 at *
          generalize w4.heap.size = b15 at *
          have S2 := Lib.hid (SB.out.ext (bdr (Below.refl _ _)))
          obtain ⟨y0, y1, y2, y3, y4, y5, y6, f0, f1, f2, f3, f4, f5, f6⟩ := SB.out.r6.seven; obtain ⟨z0, z1, z2, z3, z4, z5, z6, g0, g1, g2, g3, g4, g5, g6⟩ := SB.out.r7.seven; obtain ⟨p0, p1, p2, p3, p4, p5, p6, -⟩ := SB.out.b0.seven; obtain ⟨r0, r1, r2, r3, r4, r5, r6, -⟩ := SB.out.b1.seven;
          have hC := cut_plain HJ.out hE.out (Nat.le_of_lt (show a < J.T.length by rw [HJL.out]; exact HA.out))
          have hI := HK.out.2.2.2.2
          have HTA := Lib.hid (fun (I5 : PI) (e : I5.T = ((Is.take k).map PI.T).flatten) => (show (I5.T ++ Il.T).length ≤ 65536 from by
            rw [e, HS.out.tl, ← hC.1, List.length_take, ← hI.1, HL.out]; have := HT.out; omega))
          have HTB := Lib.hid (fun (I5 : PI) (e : I5.T = ((Is.drop (k + 1)).map PI.T).flatten) => (show (Ir.T ++ I5.T).length ≤ 65536 from by
            rw [e, HS.out.tr, ← hC.2, List.length_drop, ← hI.1, HL.out]; have := HT.out; omega))
          have HC := Lib.hid hC; have HI := Lib.hid hI
          clear hC hI
          go_cut [8] (fun v8 wx => v8 = .int .i64 0 ∧ ∃ c7 I7, Hid (CutS G h w (.slice (some ⟨b, off, none⟩) l.length cap) l Is #[.int .u64 c7.old, .int .i64 c7.ht, .int .i64 c7.b, .int .i64 c7.r, .int .i64 c7.n, .string ⟨c7.t.toArray⟩, .slice c7.kp c7.kl c7.kc] #[.int .u64 0, .int .i64 0, .int .i64 0, .int .i64 0, .int .i64 0, .string ⟨#[]⟩, .slice none 0 0] [(b15, #[.int .u64 cl.old, .int .i64 cl.ht, .int .i64 cl.b, .int .i64 cl.r, .int .i64 cl.n, .string ⟨cl.t.toArray⟩, .slice cl.kp cl.kl cl.kc]), (b15 + 1, #[.int .u64 cr.old, .int .i64 cr.ht, .int .i64 cr.b, .int .i64 cr.r, .int .i64 cr.n, .string ⟨cr.t.toArray⟩, .slice cr.kp cr.kl cr.kc])] [(c7, I7), (cr, Ir)] wx) ∧ Hid (I7.T = ((Is.take k).map PI.T).flatten ++ Il.T) ∧ Hid (∀ S, Closed G S → (∀ J ∈ Is, KIn S J) → KIn S Il → KIn S I7))
          case first =>
            go_region_law (first
            | (go_simp; go_at_call 47; (with_reducible refine (CG1.out _ _ _ _ _ (S2.out)).mono ?_); rintro e w5 ⟨c5, I5, rfl, hg5, hb5⟩; have HG5 := Lib.hid hg5; have S5 := Lib.hid (((S2.out).ext hb5).add hg5.pe); obtain ⟨y0, y1, y2, y3, y4, y5, y6, f0, f1, f2, f3, f4, f5, f6⟩ := S5.out.r6.seven; obtain ⟨z0, z1, z2, z3, z4, z5, z6, g0, g1, g2, g3, g4, g5, g6⟩ := S5.out.r7.seven; obtain ⟨p0, p1, p2, p3, p4, p5, p6, -⟩ := S5.out.b0.seven; obtain ⟨r0, r1, r2, r3, r4, r5, r6, -⟩ := S5.out.b1.seven; clear hg5 hb5)
            | (go_simp; go_at_call 47; (with_reducible refine (CG1.out _ _ _ _ _ (SB.out)).mono ?_); rintro e w5 ⟨c5, I5, rfl, hg5, hb5⟩; have HG5 := Lib.hid hg5; have S5 := Lib.hid (((SB.out).ext hb5).add hg5.pe); obtain ⟨y0, y1, y2, y3, y4, y5, y6, f0, f1, f2, f3, f4, f5, f6⟩ := S5.out.r6.seven; obtain ⟨z0, z1, z2, z3, z4, z5, z6, g0, g1, g2, g3, g4, g5, g6⟩ := S5.out.r7.seven; obtain ⟨p0, p1, p2, p3, p4, p5, p6, -⟩ := S5.out.b0.seven; obtain ⟨r0, r1, r2, r3, r4, r5, r6, -⟩ := S5.out.b1.seven; clear hg5 hb5)
            | (go_simp; go_at_call 73; (with_reducible refine (CT.out c5 cl I5 Il _ (S5.out).below (S5.out).p0 (S5.out).p2 (HTA.out I5 HG5.out.tx)).mono ?_); rintro e w7 ⟨c7, I7, rfl, hg7, hb7⟩; have HG7 := Lib.hid hg7; have S7 := Lib.hid (((S5.out).ext hb7).add hg7.pe); obtain ⟨y0, y1, y2, y3, y4, y5, y6, f0, f1, f2, f3, f4, f5, f6⟩ := S7.out.r6.seven; obtain ⟨z0, z1, z2, z3, z4, z5, z6, g0, g1, g2, g3, g4, g5, g6⟩ := S7.out.r7.seven; obtain ⟨p0, p1, p2, p3, p4, p5, p6, -⟩ := S7.out.b0.seven; obtain ⟨r0, r1, r2, r3, r4, r5, r6, -⟩ := S7.out.b1.seven; clear hg7 hb7)
            )
            all_goals
              go_wp2_with fail
              go_meet
              exact ⟨rfl, c7, I7, Lib.hid ((S7.out.set6 _ _ _ _ _ _ _).sub (by simp)), Lib.hid (by rw [HG7.out.txt, HG5.out.1]), Lib.hid (fun S hS a b => HG7.out.kin S hS (HG5.out.2.1 S (KIn.take a k)) b)⟩
          case rest =>
            obtain ⟨rfl, c7, I7, S7, HT7, HK7⟩ := hcut
            obtain ⟨y0, y1, y2, y3, y4, y5, y6, f0, f1, f2, f3, f4, f5, f6⟩ := S7.out.r6.seven; obtain ⟨z0, z1, z2, z3, z4, z5, z6, g0, g1, g2, g3, g4, g5, g6⟩ := S7.out.r7.seven; obtain ⟨p0, p1, p2, p3, p4, p5, p6, -⟩ := S7.out.b0.seven; obtain ⟨r0, r1, r2, r3, r4, r5, r6, -⟩ := S7.out.b1.seven;
            go_upto_region 26 with (fail)
            have S6 := Lib.hid (S7.out.ext (bdr (Below.refl _ _)))
            go_cut [8] (fun v8 wx => v8 = .int .i64 0 ∧ ∃ c9 I9, Hid (CutS G h w (.slice (some ⟨b, off, none⟩) l.length cap) l Is #[.int .u64 c7.old, .int .i64 c7.ht, .int .i64 c7.b, .int .i64 c7.r, .int .i64 c7.n, .string ⟨c7.t.toArray⟩, .slice c7.kp c7.kl c7.kc] #[.int .u64 c9.old, .int .i64 c9.ht, .int .i64 c9.b, .int .i64 c9.r, .int .i64 c9.n, .string ⟨c9.t.toArray⟩, .slice c9.kp c9.kl c9.kc] [(b15, #[.int .u64 cl.old, .int .i64 cl.ht, .int .i64 cl.b, .int .i64 cl.r, .int .i64 cl.n, .string ⟨cl.t.toArray⟩, .slice cl.kp cl.kl cl.kc]), (b15 + 1, #[.int .u64 cr.old, .int .i64 cr.ht, .int .i64 cr.b, .int .i64 cr.r, .int .i64 cr.n, .string ⟨cr.t.toArray⟩, .slice cr.kp cr.kl cr.kc])] [(c9, I9), (c7, I7)] wx) ∧ Hid (I9.T = Ir.T ++ ((Is.drop (k + 1)).map PI.T).flatten) ∧ Hid (∀ S, Closed G S → (∀ J ∈ Is, KIn S J) → KIn S Ir → KIn S I9))
            case first =>
              go_region_law (first
            | (go_simp; go_at_call 47; (with_reducible refine (CG3.out _ _ _ _ _ (S6.out)).mono ?_); rintro e w8 ⟨c8, I8, rfl, hg8, hb8⟩; have HG8 := Lib.hid hg8; have S8 := Lib.hid (((S6.out).ext hb8).add hg8.pe); obtain ⟨y0, y1, y2, y3, y4, y5, y6, f0, f1, f2, f3, f4, f5, f6⟩ := S8.out.r6.seven; obtain ⟨z0, z1, z2, z3, z4, z5, z6, g0, g1, g2, g3, g4, g5, g6⟩ := S8.out.r7.seven; obtain ⟨p0, p1, p2, p3, p4, p5, p6, -⟩ := S8.out.b0.seven; obtain ⟨r0, r1, r2, r3, r4, r5, r6, -⟩ := S8.out.b1.seven; clear hg8 hb8)
            | (go_simp; go_at_call 47; (with_reducible refine (CG3.out _ _ _ _ _ (S7.out)).mono ?_); rintro e w8 ⟨c8, I8, rfl, hg8, hb8⟩; have HG8 := Lib.hid hg8; have S8 := Lib.hid (((S7.out).ext hb8).add hg8.pe); obtain ⟨y0, y1, y2, y3, y4, y5, y6, f0, f1, f2, f3, f4, f5, f6⟩ := S8.out.r6.seven; obtain ⟨z0, z1, z2, z3, z4, z5, z6, g0, g1, g2, g3, g4, g5, g6⟩ := S8.out.r7.seven; obtain ⟨p0, p1, p2, p3, p4, p5, p6, -⟩ := S8.out.b0.seven; obtain ⟨r0, r1, r2, r3, r4, r5, r6, -⟩ := S8.out.b1.seven; clear hg8 hb8)
            | (go_simp; go_at_call 73; (with_reducible refine (CT.out cr c8 Ir I8 _ (S8.out).below (S8.out).p2 (S8.out).p0 (HTB.out I8 HG8.out.tx)).mono ?_); rintro e w9 ⟨c9, I9, rfl, hg9, hb9⟩; have HG9 := Lib.hid hg9; have S9 := Lib.hid (((S8.out).ext hb9).add hg9.pe); obtain ⟨y0, y1, y2, y3, y4, y5, y6, f0, f1, f2, f3, f4, f5, f6⟩ := S9.out.r6.seven; obtain ⟨z0, z1, z2, z3, z4, z5, z6, g0, g1, g2, g3, g4, g5, g6⟩ := S9.out.r7.seven; obtain ⟨p0, p1, p2, p3, p4, p5, p6, -⟩ := S9.out.b0.seven; obtain ⟨r0, r1, r2, r3, r4, r5, r6, -⟩ := S9.out.b1.seven; clear hg9 hb9)
              )
              all_goals
                go_wp2_with fail
                go_meet
                exact ⟨rfl, c9, I9, Lib.hid ((S9.out.set7 _ _ _ _ _ _ _).sub (by simp)), Lib.hid (by rw [HG9.out.txt, HG8.out.1]), Lib.hid (fun S hS a b => HG9.out.kin S hS b (HG8.out.2.1 S (KIn.drop a (k + 1))))⟩
            case rest =>
              obtain ⟨rfl, c9, I9, S9, HT9', HK9⟩ := hcut
              obtain ⟨y0, y1, y2, y3, y4, y5, y6, f0, f1, f2, f3, f4, f5, f6⟩ := S9.out.r6.seven; obtain ⟨z0, z1, z2, z3, z4, z5, z6, g0, g1, g2, g3, g4, g5, g6⟩ := S9.out.r7.seven; obtain ⟨p0, p1, p2, p3, p4, p5, p6, -⟩ := S9.out.b0.seven; obtain ⟨r0, r1, r2, r3, r4, r5, r6, -⟩ := S9.out.b1.seven;
              go_upto_region 29 with (fail)
              go_region
              all_goals
                go_wp2_with fail
                have ht : I7.T = I.T.take n := by rw [HT7.out, HS.out.tl, HI.out.1, HC.out.1]
                have hd : I9.T = I.T.drop n := by rw [HT9'.out, HS.out.tr, HI.out.1, HC.out.2]
                have hk := fun S (hS : Closed G S) (q : KIn S I) => (show KIn S I7 ∧ KIn S I9 from by
                  have q2 := HI.out.2 S hS q
                  have q3 := HS.out.kin S hS (q2 J (List.mem_of_getElem? HJ.out))
                  exact ⟨HK7.out S hS q2 q3.1, HK9.out S hS q2 q3.2⟩)
                refine bodyPost_ret (v := .tuple #[.agg #[.int .u64 c7.old, .int .i64 c7.ht, .int .i64 c7.b, .int .i64 c7.r, .int .i64 c7.n, .string ⟨c7.t.toArray⟩, .slice c7.kp c7.kl c7.kc], .agg #[.int .u64 c9.old, .int .i64 c9.ht, .int .i64 c9.b, .int .i64 c9.r, .int .i64 c9.n, .string ⟨c9.t.toArray⟩, .slice c9.kp c9.kl c9.kc], .int .i64 0]) (by simp [results, Tryz.results72, go_sem, y0, y1, y2, y3, y4, y5, y6, z0, z1, z2, z3, z4, z5, z6]) rfl ⟨c7, I7, c9, I9, rfl, ?_⟩
                first
                  | with_reducible exact (((S9.out.ext (bdr (Below.refl _ _))).set6 _ _ _ _ _ _ _).set7 _ _ _ _ _ _ _).spl (by simp) (by simp) ht hd hk
                  | with_reducible exact (((S9.out.ext (bdr (Below.refl _ _))).set7 _ _ _ _ _ _ _).set6 _ _ _ _ _ _ _).spl (by simp) (by simp) ht hd hk
                  | with_reducible exact ((S9.out.set6 _ _ _ _ _ _ _).set7 _ _ _ _ _ _ _).spl (by simp) (by simp) ht hd hk
                  | with_reducible exact ((S9.out.set7 _ _ _ _ _ _ _).set6 _ _ _ _ _ _ _).spl (by simp) (by simp) ht hd hk
                  | with_reducible exact (((S9.out.set6 _ _ _ _ _ _ _).set7 _ _ _ _ _ _ _).ext (bdr (Below.refl _ _))).spl (by simp) (by simp) ht hd hk
                  | with_reducible exact (((S9.out.set7 _ _ _ _ _ _ _).set6 _ _ _ _ _ _ _).ext (bdr (Below.refl _ _))).spl (by simp) (by simp) ht hd hk
                  | trace_state
theorem cut_pv (A : AF) (G : Ar) : ∀ h, CutSays A G h := by
  intro h
  induction h with
  | zero =>
    intro c I n w hA q hT hn
    rcases Nat.eq_zero_or_pos n with rfl | h0
    · exact cut_zero A G c I w (.inr ⟨0, q⟩)
    · rcases Nat.lt_or_ge n I.T.length with h1 | h1
      · exact cut_leaf A G c I n w hA q h0 h1
      · obtain rfl : n = I.T.length := by omega
        exact cut_end A G hA.ok 0 c I w q hT
  | succ h ih =>
    intro c I n w hA q hT hn
    rcases Nat.eq_zero_or_pos n with rfl | h0
    · exact cut_zero A G c I w (.inr ⟨h + 1, q⟩)
    · rcases Nat.lt_or_ge n I.T.length with h1 | h1
      · exact cut_inner A G h ih c I n w hA q hT h0 h1
      · obtain rfl : n = I.T.length := by omega
        exact cut_end A G hA.ok (h + 1) c I w q hT
theorem cut_any (A : AF) (G : Ar) (c : TC) (I : PI) (n : Nat) (w : World) (hA : ArM w A G) (q : PE G FT w c I) (hT : I.T.length ≤ 65536) (hn : n ≤ I.T.length) :
    Calls Tryz.prog 72 #[.pointer (some ⟨A.ba, 0, none⟩), c.v, .int .i64 n] w fun e w' => ∃ cl Il cr Ir, e = .returned (.tuple #[cl.v, cr.v, .int .i64 0]) ∧ SplV G w' I n cl Il cr Ir ∧ Below w.heap.size w w' := by
  rcases q with ⟨rfl, rfl⟩ | ⟨h, q⟩
  · obtain rfl : n = 0 := by simpa [PI.zero] using hn
    exact cut_zero A G _ _ w (.inl ⟨rfl, rfl⟩)
  · exact cut_pv A G h c I n w hA q hT hn

end Go.Proofs.YtclmjnobacepjaaGreat
