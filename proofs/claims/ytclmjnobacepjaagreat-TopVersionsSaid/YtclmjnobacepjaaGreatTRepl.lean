/- plan.Replace. -/
import Derived.Test.YtclmjnobacepjaaGreatJ20
namespace Go.Proofs.YtclmjnobacepjaaGreat
open Go.RowKit

/-- boxes of plans, and plans, that stand -/
structure Bx (G : Ar) (w0 : World) (Bs : List (Nat × Array Value)) (Ps : List (TC × PI)) (W : World) : Prop where
  below : Below w0.heap.size w0 W
  bs : ∀ p ∈ Bs, Bk W p.1 p.2 76 ∧ w0.heap.size ≤ p.1
  nd : (Bs.map Prod.fst).Nodup
  ps : ∀ p ∈ Ps, PE G FT W p.1 p.2
section
variable {G : Ar} {w0 W W' : World} {Bs : List (Nat × Array Value)} {Ps : List (TC × PI)}
theorem Bx.ext (hb : Below W.heap.size W W') (s : Bx G w0 Bs Ps W) : Bx G w0 Bs Ps W' := ⟨bcall s.1 hb, fun p hp => ⟨(s.bs p hp).1.ext hb (s.bs p hp).1.lt, (s.bs p hp).2⟩, s.nd, fun p hp => (s.ps p hp).ext hb⟩
theorem Bx.start (G : Ar) (w : World) : Bx G w [] [] w := ⟨Below.refl _ _, fun _ h => (by cases h), by simp, fun _ h => (by cases h)⟩
theorem Bx.add (s : Bx G w0 Bs Ps W) {c : TC} {I : PI} (q : PE G FT W c I) : Bx G w0 Bs ((c, I) :: Ps) W :=
  ⟨s.1, s.2, s.3, fun p hp => (List.mem_cons.1 hp).elim (fun e => by rw [e]; exact q) (s.ps p)⟩
theorem Bx.alloc (s : Bx G w0 Bs Ps W) (cs : Array Value) : Bx G w0 ((W.heap.size, cs) :: Bs) Ps (W.alloc (.cells cs 76)) := by
  have e := s.ext (bal (Below.refl _ _) : Below W.heap.size W (W.alloc (.cells cs 76)))
  refine ⟨e.1, fun p hp => ?_, ?_, e.4⟩
  · rcases List.mem_cons.1 hp with rfl | hp
    · exact ⟨Bk.new _ _ _, s.1.size⟩
    · exact e.2 p hp
  · rw [List.map_cons, List.nodup_cons]
    refine ⟨fun h => ?_, s.3⟩
    obtain ⟨p, hp, h2⟩ := List.mem_map.1 h
    have := (s.2 p hp).1.lt
    simp only at h2
    omega
theorem Bx.alloc' (s : Bx G w0 Bs Ps W) (cs : Array Value) (n : Nat) (hn : W.heap.size = n) : Bx G w0 ((n, cs) :: Bs) Ps (W.alloc (.cells cs 76)) := by
  subst hn; exact s.alloc cs
theorem Bx.subP (s : Bx G w0 Bs Ps W) {Qs : List (TC × PI)} (hq : ∀ p ∈ Qs, p ∈ Ps) : Bx G w0 Bs Qs W := ⟨s.1, s.2, s.3, fun p hp => s.ps p (hq p hp)⟩
theorem Bx.subB (s : Bx G w0 Bs Ps W) {Cs : List (Nat × Array Value)} (hq : List.Sublist Cs Bs) : Bx G w0 Cs Ps W := ⟨s.1, fun p hp => s.2 p (hq.subset hp), s.3.sublist (hq.map _), s.4⟩
theorem Bx.set {L : List (Nat × Array Value)} {b : Nat} {z0 z1 z2 z3 z4 z5 z6 : Value} (s : Bx G w0 (L ++ (b, #[z0, z1, z2, z3, z4, z5, z6]) :: Bs) Ps W) (u0 u1 u2 u3 u4 u5 u6 : Value) : Bx G w0 (L ++ (b, #[u0, u1, u2, u3, u4, u5, u6]) :: Bs) Ps (((((((W.setCell ⟨b, 0, none⟩ u0).setCell ⟨b, 1, none⟩ u1).setCell ⟨b, 2, none⟩ u2).setCell ⟨b, 3, none⟩ u3).setCell ⟨b, 4, none⟩ u4).setCell ⟨b, 5, none⟩ u5).setCell ⟨b, 6, none⟩ u6) := show Bx G w0 (L ++ (b, #[u0, u1, u2, u3, u4, u5, u6]) :: Bs) Ps (wset7 W b u0 u1 u2 u3 u4 u5 u6) from by
  have hb := s.2 (b, #[z0, z1, z2, z3, z4, z5, z6]) (by simp)
  have hne : ∀ p, p ∈ L ∨ p ∈ Bs → p.1 ≠ b := fun p hp e => by
    have := s.3
    rw [List.map_append, List.map_cons, List.nodup_append] at this
    rcases hp with hp | hp
    · exact this.2.2 p.1 (List.mem_map_of_mem hp) b (by simp) e
    · have hq := List.mem_map_of_mem (f := Prod.fst) hp
      rw [e] at hq
      exact (List.nodup_cons.1 this.2.1).1 hq
  refine ⟨bset7 s.1 hb.2, fun p hp => ?_, ?_, fun p hp => (s.4 p hp).set7 hb.1 (by simp)⟩
  · rcases List.mem_append.1 hp with h | h
    · exact ⟨(wset7_other (hne p (.inl h))).trans (s.2 p (by simp [h])).1, (s.2 p (by simp [h])).2⟩
    · rcases List.mem_cons.1 h with rfl | h
      · exact ⟨bk_set7 hb.1 _ _ _ _ _ _ _, hb.2⟩
      · exact ⟨(wset7_other (hne p (.inr h))).trans (s.2 p (by simp [h])).1, (s.2 p (by simp [h])).2⟩
  · have := s.3
    rw [List.map_append, List.map_cons] at this ⊢
    exact this
variable {b : Nat} {cs : Array Value} {x y z : Nat × Array Value} {c : TC} {I : PI} {p q : TC × PI}
theorem Bx.b0 (s : Bx G w0 ((b, cs) :: Bs) Ps W) : Bk W b cs 76 := (s.2 (b, cs) (by simp)).1
theorem Bx.b1 (s : Bx G w0 (x :: (b, cs) :: Bs) Ps W) : Bk W b cs 76 := (s.2 (b, cs) (by simp)).1
theorem Bx.b2 (s : Bx G w0 (x :: y :: (b, cs) :: Bs) Ps W) : Bk W b cs 76 := (s.2 (b, cs) (by simp)).1
theorem Bx.b3 (s : Bx G w0 (x :: y :: z :: (b, cs) :: Bs) Ps W) : Bk W b cs 76 := (s.2 (b, cs) (by simp)).1
theorem Bx.p0 (s : Bx G w0 Bs ((c, I) :: Ps) W) : PE G FT W c I := s.4 (c, I) (by simp)
theorem Bx.p1 (s : Bx G w0 Bs (p :: (c, I) :: Ps) W) : PE G FT W c I := s.4 (c, I) (by simp)
theorem Bx.p2 (s : Bx G w0 Bs (p :: q :: (c, I) :: Ps) W) : PE G FT W c I := s.4 (c, I) (by simp)
end
theorem bytes_pe {G : Ar} (hG : ArOK G) (c : TC) (I : PI) (w : World) (q : PE G FT w c I) (hT : I.T.length ≤ 1000000) :
    Calls Tryz.prog 70 #[c.v] w fun e w' => e = .returned (.int .i64 I.T.length) ∧ Below w.heap.size w w' := by
  rcases q with ⟨rfl, rfl⟩ | ⟨h, q⟩
  · exact bytes_flat 0 0 0 0 0 [] w (by omega) (by simp)
  · exact bytes_any hG h c I w q hT

/-- the plan of a replacement -/
structure RplV (G : Ar) (B : Nat) (w : World) (I : PI) (at_ n : Nat) (s : List UInt8) (c' : TC) (I' : PI) : Prop where
  pe : PE G (FG B) w c' I'
  txt : I'.T = I.T.take at_ ++ s ++ I.T.drop (at_ + n)
  kin : ∀ S, Closed G S → KIn S I → KIn S I'
theorem PE.mono {G : Ar} {F F' : Nat → Prop} (hF : ∀ g, F g → F' g) {w : World} {c : TC} {I : PI} (q : PE G F w c I) : PE G F' w c I := by
  rcases q with q | ⟨h, q⟩
  · exact .inl q
  · exact .inr ⟨h, q.mono hF⟩

set_option maxHeartbeats 4000000 in
set_option maxRecDepth 100000 in
theorem replace_any (A : AF) (G : Ar) (c : TC) (I : PI) (at_ n : Nat) (s : List UInt8) (w : World) (hA : ArM w A G) (q : PE G FT w c I) (hT : I.T.length ≤ 4096) (hs : s.length ≤ 4096) (ha : at_ ≤ I.T.length) (hn : at_ + n ≤ I.T.length) :
    Calls Tryz.prog 52 #[.pointer (some ⟨A.ba, 0, none⟩), c.v, .int .i64 at_, .int .i64 n, .string ⟨s.toArray⟩] w fun e w' => ∃ c' I', e = .returned (.tuple #[c'.v, .int .i64 0]) ∧ RplV G w.heap.size w' I at_ n s c' I' ∧ Below w.heap.size w w' := by
  have cK := fun W (p : Below w.heap.size w W) => Check_any A G FT c I W (hA.ext p) (q.ext p) (by omega)
  have cB := fun W (p : Below w.heap.size w W) => bytes_pe hA.ok c I W (q.ext p) (by omega)
  have cO := fun c I W (q : PE G FT W c I) (t : I.T.length ≤ 65536) => own_any hA.ok c I W q t
  have cC := fun c I (n : Nat) W (p : Below w.heap.size w W) (q : PE G FT W c I) (t : I.T.length ≤ 65536) (m : n ≤ I.T.length) => cut_any A G c I n W (hA.ext p) q t m
  have cT := fun cx cy Ix Iy W (p : Below w.heap.size w W) (qx : PE G FT W cx Ix) (qy : PE G FT W cy Iy) (t : (Ix.T ++ Iy.T).length ≤ 65536) => concat_any A G cx cy Ix Iy W (hA.ext p) qx qy t
  have cU := fun W => build_any hA.ok s W (show s.length ≤ 65536 by omega)
  have X0 := Lib.hid ((Bx.start G w).add q)
  have HT := Lib.hid hT; have HN := Lib.hid hn
  have hai : (at_ : Int) ≤ (I.T.length : Int) := by omega
  have hni : (n : Int) ≤ (I.T.length : Int) - (at_ : Int) := by omega
  have hti : (I.T.length : Int) ≤ 4096 := by omega
  have hsi : (s.length : Int) ≤ 4096 := by omega
  have hni4 : (n : Int) ≤ 4096 := by omega
  unfold TC.v at *
  have CK := Lib.hid cK; have CB := Lib.hid cB; have CO := Lib.hid cO; have CC := Lib.hid cC; have CT := Lib.hid cT; have CU := Lib.hid cU
  clear cK cB cO cC cT cU hA q hT hn ha
  generalize hm : I.T.length = m at *
  have HM := Lib.hid hm; clear hm
  go_enter Tryz.func52, Tryz.ntmps52
  go_wp2_with fail
  have X1 := Lib.hid ((X0.out.alloc #[.int .u64 c.old, .int .i64 c.ht, .int .i64 c.b, .int .i64 c.r, .int .i64 c.n, .string ⟨c.t.toArray⟩, .slice c.kp c.kl c.kc]).alloc' #[.int .u64 0, .int .i64 0, .int .i64 0, .int .i64 0, .int .i64 0, .string ⟨#[]⟩, .slice none 0 0] (w.heap.size + 1) (World.size_alloc _ _))
  refine (CK.out _ X1.out.below).mono ?_
  rintro e w1 ⟨rfl, hb1⟩
  have X2 := Lib.hid (X1.out.ext hb1)
  obtain ⟨x0, x1, x2, x3, x4, x5, x6, -⟩ := X2.out.b1.seven
  have hxl := X2.out.b1.lt
  clear hb1 CK
  go_wp2_with fail
  refine (CB.out _ X2.out.below).mono ?_
  rintro e w2 ⟨rfl, hb2⟩
  have X3 := Lib.hid (X2.out.ext hb2)
  obtain ⟨x0, x1, x2, x3, x4, x5, x6, -⟩ := X3.out.b1.seven
  have hxl := X3.out.b1.lt
  clear hb2 CB
  obtain ⟨r0, r1, r2, r3, r4, r5, r6, f0, f1, f2, f3, f4, f5, f6⟩ := X3.out.b0.seven
  have hrl := X3.out.b0.lt
  by_cases hz : n = 0 ∧ s = []
  · obtain ⟨rfl, rfl⟩ := hz
    go_wp2_with fail
    refine (CO.out c I w2 X3.out.p0 (by have := HM.out; have := HT.out; omega)).mono ?_
    rintro e w3 ⟨c3, rfl, hp3, hb3⟩
    have X4 := Lib.hid (X3.out.ext hb3)
    have HP := Lib.hid hp3
    have HL := Lib.hid X3.out.below.size
    obtain ⟨r0, r1, r2, r3, r4, r5, r6, f0, f1, f2, f3, f4, f5, f6⟩ := X4.out.b0.seven
    have hrl := X4.out.b0.lt
    clear hp3 hb3 X3
    go_wp2_with fail
    refine bodyPost_ret (v := .tuple #[.agg #[.int .u64 c3.old, .int .i64 c3.ht, .int .i64 c3.b, .int .i64 c3.r, .int .i64 c3.n, .string ⟨c3.t.toArray⟩, .slice c3.kp c3.kl c3.kc], .int .i64 0]) (by simp [results, Tryz.results52, go_sem, r0, r1, r2, r3, r4, r5, r6]) rfl ⟨c3, I, rfl, ⟨(HP.out.mono fun g hg => Nat.le_trans HL.out hg).set7 X4.out.b0 (by simp), by simp, fun _ _ a => a⟩, bset7 X4.out.below (by omega)⟩
  · have hgo : (n : Int) == 0 → ¬ (s = []) := fun e => by simp at e; exact fun e2 => hz ⟨e, e2⟩
    obtain ⟨bz, hbz⟩ : ∃ bz, ((n : Int) == 0) = bz := ⟨_, rfl⟩
    have hcut : bz = true → s ≠ [] := fun e => by rw [e] at hbz; exact hgo hbz
    go_upto_region 9 with (fail)
    go_cut [67] (fun v67 wx => v67 = .bool false ∧ wx = w2)
    case first =>
      cases bz with
      | false =>
        go_wp2_with fail
        go_meet
        case rel => exact ⟨rfl, rfl⟩
      | true =>
        have hs0 := hcut rfl
        go_wp2_with fail
        go_meet
        case rel => exact ⟨by simp [hs0], rfl⟩
    case rest =>
      obtain ⟨rfl, rfl⟩ := hcut
      go_wp2_with fail
      refine (CC.out c I at_ wc X3.out.below X3.out.p0 (by have := HM.out; have := HT.out; omega) (by rw [HM.out]; omega)).mono ?_
      rintro e w3 ⟨cl, Il, cr, Ir, rfl, hs3, hb3⟩
      have HS3 := Lib.hid hs3
      have X4 := Lib.hid (((X3.out.ext hb3).add hs3.pl).add hs3.pr)
      have X5 := Lib.hid (((X4.out.alloc #[.int .u64 cl.old, .int .i64 cl.ht, .int .i64 cl.b, .int .i64 cl.r, .int .i64 cl.n, .string ⟨cl.t.toArray⟩, .slice cl.kp cl.kl cl.kc]).alloc' #[.int .u64 cr.old, .int .i64 cr.ht, .int .i64 cr.b, .int .i64 cr.r, .int .i64 cr.n, .string ⟨cr.t.toArray⟩, .slice cr.kp cr.kl cr.kc] (w3.heap.size + 1) (World.size_alloc _ _)).subB (Cs := [(w3.heap.size + 1, #[.int .u64 cr.old, .int .i64 cr.ht, .int .i64 cr.b, .int .i64 cr.r, .int .i64 cr.n, .string ⟨cr.t.toArray⟩, .slice cr.kp cr.kl cr.kc]), (w3.heap.size, #[.int .u64 cl.old, .int .i64 cl.ht, .int .i64 cl.b, .int .i64 cl.r, .int .i64 cl.n, .string ⟨cl.t.toArray⟩, .slice cl.kp cl.kl cl.kc]), (w.heap.size + 1, #[.int .u64 0, .int .i64 0, .int .i64 0, .int .i64 0, .int .i64 0, .string ⟨#[]⟩, .slice none 0 0])]) (by simp))
      clear hs3 hb3 X3 x0 x1 x2 x3 x4 x5 x6 r0 r1 r2 r3 r4 r5 r6 f0 f1 f2 f3 f4 f5 f6
      go_wp2_with fail
      have hir : Ir.T.length = I.T.length - at_ := by rw [HS3.out.tr, List.length_drop]
      refine (CC.out cr Ir n _ X5.out.below X5.out.p0 (by have := HM.out; have := HT.out; omega) (by rw [hir, HM.out]; have := HN.out; omega)).mono ?_
      rintro e w5 ⟨dl, Jl, dr, Jr, rfl, hs5, hb5⟩
      have HS5 := Lib.hid hs5
      have X6 := Lib.hid (((X5.out.ext hb5).add hs5.pl).add hs5.pr)
      have X7 := Lib.hid ((((X6.out.alloc #[.int .u64 dl.old, .int .i64 dl.ht, .int .i64 dl.b, .int .i64 dl.r, .int .i64 dl.n, .string ⟨dl.t.toArray⟩, .slice dl.kp dl.kl dl.kc]).alloc' #[.int .u64 dr.old, .int .i64 dr.ht, .int .i64 dr.b, .int .i64 dr.r, .int .i64 dr.n, .string ⟨dr.t.toArray⟩, .slice dr.kp dr.kl dr.kc] (w5.heap.size + 1) (World.size_alloc _ _)).subB (Cs := [(w5.heap.size + 1, #[.int .u64 dr.old, .int .i64 dr.ht, .int .i64 dr.b, .int .i64 dr.r, .int .i64 dr.n, .string ⟨dr.t.toArray⟩, .slice dr.kp dr.kl dr.kc]), (w3.heap.size, #[.int .u64 cl.old, .int .i64 cl.ht, .int .i64 cl.b, .int .i64 cl.r, .int .i64 cl.n, .string ⟨cl.t.toArray⟩, .slice cl.kp cl.kl cl.kc]), (w.heap.size + 1, #[.int .u64 0, .int .i64 0, .int .i64 0, .int .i64 0, .int .i64 0, .string ⟨#[]⟩, .slice none 0 0])]) (by simp)).subP (Qs := [(dr, Jr), (cl, Il)]) (by simp))
      clear hs5 hb5 X5 X4
      go_wp2_with fail
      refine (CU.out _).mono ?_
      rintro e w7 ⟨cm, Im, rfl, hn7, hb7⟩
      have HN7 := Lib.hid hn7
      have X8 := Lib.hid ((X7.out.ext hb7).add hn7.1)
      have X9 := Lib.hid (X8.out.alloc #[.int .u64 cm.old, .int .i64 cm.ht, .int .i64 cm.b, .int .i64 cm.r, .int .i64 cm.n, .string ⟨cm.t.toArray⟩, .slice cm.kp cm.kl cm.kc])
      clear hn7 hb7 X7 X6
      obtain ⟨g0, g1, g2, g3, g4, g5, g6, gf0, gf1, gf2, gf3, gf4, gf5, gf6⟩ := X9.out.b2.seven
      have glt := X9.out.b2.lt
      have hT1 : (Il.T ++ Im.T).length ≤ 65536 := by
        rw [List.length_append, HN7.out.2.1, HS3.out.tl, List.length_take]; have := HM.out; have := HT.out; omega
      go_wp2_with fail
      refine (CT.out cl cm Il Im _ X9.out.below X9.out.p2 X9.out.p0 hT1).mono ?_
      rintro e w10 ⟨c10, I10, rfl, hc10, hb10⟩
      have HC10 := Lib.hid hc10
      have X11 := Lib.hid ((((X9.out.ext hb10).add hc10.pe).subP (Qs := [(c10, I10), (dr, Jr)]) (by simp)).subB (Cs := [(w5.heap.size + 1, #[.int .u64 dr.old, .int .i64 dr.ht, .int .i64 dr.b, .int .i64 dr.r, .int .i64 dr.n, .string ⟨dr.t.toArray⟩, .slice dr.kp dr.kl dr.kc]), (w3.heap.size, #[.int .u64 cl.old, .int .i64 cl.ht, .int .i64 cl.b, .int .i64 cl.r, .int .i64 cl.n, .string ⟨cl.t.toArray⟩, .slice cl.kp cl.kl cl.kc]), (w.heap.size + 1, #[.int .u64 0, .int .i64 0, .int .i64 0, .int .i64 0, .int .i64 0, .string ⟨#[]⟩, .slice none 0 0])]) (by simp))
      have X12 := Lib.hid (X11.out.set (L := [(w5.heap.size + 1, #[.int .u64 dr.old, .int .i64 dr.ht, .int .i64 dr.b, .int .i64 dr.r, .int .i64 dr.n, .string ⟨dr.t.toArray⟩, .slice dr.kp dr.kl dr.kc])]) (.int .u64 c10.old) (.int .i64 c10.ht) (.int .i64 c10.b) (.int .i64 c10.r) (.int .i64 c10.n) (.string ⟨c10.t.toArray⟩) (.slice c10.kp c10.kl c10.kc))
      clear hc10 hb10 X9 X8 hT1 g0 g1 g2 g3 g4 g5 g6 gf0 gf1 gf2 gf3 gf4 gf5 gf6 glt
      obtain ⟨g0, g1, g2, g3, g4, g5, g6, gf0, gf1, gf2, gf3, gf4, gf5, gf6⟩ := X11.out.b1.seven
      have glt := X11.out.b1.lt
      go_upto_region 21 with (fail)
      generalize (((((((w10.setCell ⟨w3.heap.size, 0, none⟩ (.int .u64 c10.old)).setCell ⟨w3.heap.size, 1, none⟩ (.int .i64 c10.ht)).setCell ⟨w3.heap.size, 2, none⟩ (.int .i64 c10.b)).setCell ⟨w3.heap.size, 3, none⟩ (.int .i64 c10.r)).setCell ⟨w3.heap.size, 4, none⟩ (.int .i64 c10.n)).setCell ⟨w3.heap.size, 5, none⟩ (.string ⟨c10.t.toArray⟩)).setCell ⟨w3.heap.size, 6, none⟩ (.slice c10.kp c10.kl c10.kc)) = W12 at *
      obtain ⟨g0, g1, g2, g3, g4, g5, g6, gf0, gf1, gf2, gf3, gf4, gf5, gf6⟩ := X12.out.b1.seven
      have glt := X12.out.b1.lt
      obtain ⟨h0, h1, h2, h3, h4, h5, h6, hf0, hf1, hf2, hf3, hf4, hf5, hf6⟩ := X12.out.b0.seven
      have hlt := X12.out.b0.lt
      have hT2 : (I10.T ++ Jr.T).length ≤ 65536 := by
        rw [List.length_append, HC10.out.txt, List.length_append, HN7.out.2.1, HS3.out.tl, HS5.out.tr, List.length_take, List.length_drop, hir]; have := HM.out; have := HT.out; omega
      go_wp2_with fail
      refine (CT.out c10 dr I10 Jr _ X12.out.below X12.out.p0 X12.out.p1 hT2).mono ?_
      rintro e w13 ⟨c13, I13, rfl, hc13, hb13⟩
      have HC13 := Lib.hid hc13
      have X14 := Lib.hid ((((X12.out.ext hb13).add hc13.pe).subP (Qs := [(c13, I13)]) (by simp)).subB (Cs := [(w3.heap.size, #[.int .u64 c10.old, .int .i64 c10.ht, .int .i64 c10.b, .int .i64 c10.r, .int .i64 c10.n, .string ⟨c10.t.toArray⟩, .slice c10.kp c10.kl c10.kc]), (w.heap.size + 1, #[.int .u64 0, .int .i64 0, .int .i64 0, .int .i64 0, .int .i64 0, .string ⟨#[]⟩, .slice none 0 0])]) (by simp))
      have X15 := Lib.hid (X14.out.set (L := []) (.int .u64 c13.old) (.int .i64 c13.ht) (.int .i64 c13.b) (.int .i64 c13.r) (.int .i64 c13.n) (.string ⟨c13.t.toArray⟩) (.slice c13.kp c13.kl c13.kc))
      clear hc13 hb13 X11 X12
      obtain ⟨g0, g1, g2, g3, g4, g5, g6, gf0, gf1, gf2, gf3, gf4, gf5, gf6⟩ := X14.out.b0.seven
      have glt := X14.out.b0.lt
      go_upto_region 24 with (fail)
      generalize (((((((w13.setCell ⟨w3.heap.size, 0, none⟩ (.int .u64 c13.old)).setCell ⟨w3.heap.size, 1, none⟩ (.int .i64 c13.ht)).setCell ⟨w3.heap.size, 2, none⟩ (.int .i64 c13.b)).setCell ⟨w3.heap.size, 3, none⟩ (.int .i64 c13.r)).setCell ⟨w3.heap.size, 4, none⟩ (.int .i64 c13.n)).setCell ⟨w3.heap.size, 5, none⟩ (.string ⟨c13.t.toArray⟩)).setCell ⟨w3.heap.size, 6, none⟩ (.slice c13.kp c13.kl c13.kc)) = W15 at *
      obtain ⟨g0, g1, g2, g3, g4, g5, g6, gf0, gf1, gf2, gf3, gf4, gf5, gf6⟩ := X15.out.b0.seven
      have glt := X15.out.b0.lt
      have hT3 : I13.T.length ≤ 65536 := by rw [HC13.out.txt]; exact hT2
      go_wp2_with fail
      refine (CO.out c13 I13 _ X15.out.p0 hT3).mono ?_
      rintro e w16 ⟨c16, rfl, hp16, hb16⟩
      have HP := Lib.hid hp16
      have HL := Lib.hid X15.out.below.size
      have X17 := Lib.hid ((X15.out.ext hb16).subB (Cs := [(w.heap.size + 1, #[.int .u64 0, .int .i64 0, .int .i64 0, .int .i64 0, .int .i64 0, .string ⟨#[]⟩, .slice none 0 0])]) (by simp))
      clear hp16 hb16 X14 X15
      obtain ⟨k0, k1, k2, k3, k4, k5, k6, kf0, kf1, kf2, kf3, kf4, kf5, kf6⟩ := X17.out.b0.seven
      have klt := X17.out.b0.lt
      go_wp2_with fail
      refine bodyPost_ret (v := .tuple #[.agg #[.int .u64 c16.old, .int .i64 c16.ht, .int .i64 c16.b, .int .i64 c16.r, .int .i64 c16.n, .string ⟨c16.t.toArray⟩, .slice c16.kp c16.kl c16.kc], .int .i64 0]) (by simp [results, Tryz.results52, go_sem, k0, k1, k2, k3, k4, k5, k6]) rfl ⟨c16, I13, rfl, ⟨(HP.out.mono fun g hg => Nat.le_trans HL.out hg).set7 X17.out.b0 (by simp), ?_, ?_⟩, bset7 X17.out.below (by omega)⟩
      · rw [HC13.out.txt, HC10.out.txt, HN7.out.2.1, HS3.out.tl, HS5.out.tr, HS3.out.tr, List.drop_drop]
      · intro S hS hk
        have h3 := HS3.out.kin S hS hk
        have h5 := HS5.out.kin S hS h3.2
        exact HC13.out.kin S hS (HC10.out.kin S hS h3.1 (fun k hk => by rw [HN7.out.2.2] at hk; cases hk)) h5.2

end Go.Proofs.YtclmjnobacepjaaGreat
