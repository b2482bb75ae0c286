/- edit.Replace; rope.New. -/
import Derived.Test.YtclmjnobacepjaaGreatTChange
import Derived.RangeFuncFrom
import Derived.RangeFuncLeaves
import Derived.RangeFuncBound
import Derived.RangeFuncCalls
import Derived.Shelf.Abstract
import Derived.Shelf.RegionOpen
import Derived.OwnWalkIn
import Derived.TacticsInMore
import Derived.LoopNIn
import Derived.LoopIn
namespace Go.Proofs.YtclmjnobacepjaaGreat
open Go.RowKit

set_option maxHeartbeats 2000000 in
set_option maxRecDepth 100000 in
theorem repl1_any (A : AF) (G : Ar) (r : Rt) (T : List UInt8) (at_ n : Nat) (s : List UInt8) (b0 b1 b2 b3 b4 : Nat) (w : World) (hA : ArM w A G) (hr : RV G r T) (hT : T.length ≤ 4096) (hs : s.length ≤ 4096) (ha : at_ ≤ T.length) (hn : at_ + n ≤ T.length)
    (k0 : Bk w b0 #[.pointer (some ⟨A.ba, 0, none⟩)] 24) (k1 : Bk w b1 #[.int .u64 r.at_, .int .i64 r.ht, .int .i64 r.b, .int .i64 r.r, .int .i64 r.n] 39) (k2 : Bk w b2 #[.int .i64 at_] 3) (k3 : Bk w b3 #[.int .i64 n] 3) (k4 : Bk w b4 #[.string ⟨s.toArray⟩] 9) :
    Calls Tryz.prog 34 #[.pointer (some ⟨b0, 0, none⟩), .pointer (some ⟨b1, 0, none⟩), .pointer (some ⟨b2, 0, none⟩), .pointer (some ⟨b3, 0, none⟩), .pointer (some ⟨b4, 0, none⟩)] w fun e w' => ∃ c' I', e = .returned (.tuple #[c'.v, .int .i64 0]) ∧ (PE G FT w' c' I' ∧ I'.T = T.take at_ ++ s ++ T.drop (at_ + n) ∧ ∀ S, Closed G S → RIn S r → KIn S I') ∧ Below w.heap.size w w' := by
  have cP := fun W (p : Below w.heap.size w W) => plan_any A G r T at_ n s W (hA.ext p) hr hT hs ha hn
  obtain ⟨ro, rh, rb, rr, rn⟩ := r
  unfold Rt.v TC.v at *
  have CP := Lib.hid cP
  obtain ⟨c0, -⟩ := k0.one
  obtain ⟨c1, c2, c3, c4, c5, -⟩ := k1.five
  obtain ⟨d2, -⟩ := k2.one
  obtain ⟨d3, -⟩ := k3.one
  obtain ⟨d4, -⟩ := k4.one
  have l0 := k0.lt; have l1 := k1.lt; have l2 := k2.lt; have l3 := k3.lt; have l4 := k4.lt
  clear cP hA hr hT hs ha hn k0 k1 k2 k3 k4
  go_enter Tryz.func34, Tryz.ntmps34
  go_wp2_with fail
  have hb0 : Below w.heap.size w (w.alloc (.cells #[.int .u64 0, .int .i64 0, .int .i64 0, .int .i64 0, .int .i64 0, .string ⟨#[]⟩, .slice none 0 0] 76)) := bal (Below.refl _ _)
  have hk0 := Bk.new w #[.int .u64 0, .int .i64 0, .int .i64 0, .int .i64 0, .int .i64 0, .string ⟨#[]⟩, .slice none 0 0] 76
  have hz0 : (w.alloc (.cells #[.int .u64 0, .int .i64 0, .int .i64 0, .int .i64 0, .int .i64 0, .string ⟨#[]⟩, .slice none 0 0] 76)).heap.size = w.heap.size + 1 := by simp
  refine (CP.out _ hb0).mono ?_
  generalize w.alloc (.cells #[.int .u64 0, .int .i64 0, .int .i64 0, .int .i64 0, .int .i64 0, .string ⟨#[]⟩, .slice none 0 0] 76) = W0 at *
  rintro e w5 ⟨c, I, rfl, hE, hb5⟩
  have hk5 := hk0.ext hb5 hk0.lt
  obtain ⟨y0, y1, y2, y3, y4, y5, y6, f0, f1, f2, f3, f4, f5, f6⟩ := hk5.seven
  have hl5 := hk5.lt
  have HE := Lib.hid hE; have HB := Lib.hid (bcall hb0 hb5); have HK := Lib.hid hk5
  clear hE hb5 hk5 hb0 hk0 CP hz0
  go_wp2_with fail
  refine bodyPost_ret (v := .tuple #[.agg #[.int .u64 c.old, .int .i64 c.ht, .int .i64 c.b, .int .i64 c.r, .int .i64 c.n, .string ⟨c.t.toArray⟩, .slice c.kp c.kl c.kc], .int .i64 0]) (by simp [results, Tryz.results34, go_sem, y0, y1, y2, y3, y4, y5, y6]) rfl ⟨c, I, rfl, ⟨?_, HE.out.txt, HE.out.kin⟩, bset7 HB.out (Nat.le_refl _)⟩
  exact (HE.out.pe.mono (fun _ _ => trivial)).set7 HK.out (by simp)

/-- what an edit makes -/
structure RepV (A : AF) (G : Ar) (r : Rt) (T' : List UInt8) (w : World) (xs : List Nd) (r' : Rt) (fv dv : Value) (D : List Nat) (w' : World) : Prop where
  ar : ArM w' A (G ++ xs)
  fr : FrT (arT A) w w'
  fresh : Ow hndE w' w.heap.size 35 fv (frL G.length xs.length)
  drop : Ow hndE w' w.heap.size 35 dv (D.map hd)
  plan : ∃ (c' : TC) (I' : PI) (w1 : World), PE G FT w1 c' I' ∧ WrV G xs r' I' ∧ I'.T = T' ∧ (∀ x, x ∈ D ↔ RtR G r x ∧ ¬ KpR G I'.K x) ∧ ∀ S, Closed G S → RIn S r → KIn S I'
  nodup : D.Nodup

set_option maxHeartbeats 2000000 in
set_option maxRecDepth 100000 in
theorem repl_any (A : AF) (G : Ar) (r : Rt) (T : List UInt8) (at_ n : Nat) (s : List UInt8) (w : World) (hA : ArM w A G) (hr : RV G r T) (hT : T.length ≤ 2000) (hs : s.length ≤ 2000) (ha : at_ ≤ T.length) (hn : at_ + n ≤ T.length) (hle : G.length + ((T.length + s.length) / 4 + 1) ≤ 999) :
    Calls Tryz.prog 18 #[.pointer (some ⟨A.ba, 0, none⟩), r.v, .int .i64 at_, .int .i64 n, .string ⟨s.toArray⟩] w fun e w' => ∃ (xs : List Nd) (r' : Rt) (Af : Option Addr) (cf : Nat) (Ad : Option Addr) (cd : Nat) (D : List Nat), e = .returned (.tuple #[.agg #[.int .u64 r'.at_, .int .i64 r'.ht, .int .i64 r'.b, .int .i64 r'.r, .int .i64 r'.n, .slice Af xs.length cf, .slice Ad D.length cd], .int .i64 0]) ∧ RepV A G r (T.take at_ ++ s ++ T.drop (at_ + n)) w xs r' (.slice Af xs.length cf) (.slice Ad D.length cd) D w' := by
  have cR := fun b0 b1 b2 b3 b4 W (p : Below w.heap.size w W) => repl1_any A G r T at_ n s b0 b1 b2 b3 b4 W (hA.ext p) hr (by omega) (by omega) ha hn
  have HAL := Lib.hid (fun k (hk : arT A k) => hA.lt hk)
  have hl' : (T.take at_ ++ s ++ T.drop (at_ + n)).length ≤ T.length + s.length := by simp; omega
  have cC := fun caps br W (p : Below w.heap.size w W) => change_any A G r T (T.take at_ ++ s ++ T.drop (at_ + n)) caps br W (hA.ext p) hr
  have hl4 : (T.take at_ ++ s ++ T.drop (at_ + n)).length ≤ 4096 := by omega
  have hl9 : G.length + ((T.take at_ ++ s ++ T.drop (at_ + n)).length / 4 + 1) ≤ 999 := by omega
  have HL := Lib.hid (And.intro hl4 hl9)
  generalize T.take at_ ++ s ++ T.drop (at_ + n) = T' at *
  obtain ⟨ro, rh, rb, rr, rn⟩ := r
  unfold Rt.v at *
  have CR := Lib.hid cR; have CC := Lib.hid cC
  have hmf : ∀ (fn : Fn) (first cap : Array Value) (w : World), (Instr.makeFunc fn first cap).run Tryz.prog w = .ok (.func fn first cap) w := fun _ _ _ _ => rfl
  clear cR cC hA hr hT hs ha hn hle hl' hl4 hl9
  go_enter Tryz.func18, Tryz.ntmps18
  go_wp2_with fail
  have k0 : Bk (((((((w.alloc (.cells #[.pointer (some ⟨A.ba, 0, none⟩)] 24)).alloc (.cells #[.int .u64 ro, .int .i64 rh, .int .i64 rb, .int .i64 rr, .int .i64 rn] 39)).alloc (.cells #[.int .i64 at_] 3)).alloc (.cells #[.int .i64 n] 3)).alloc (.cells #[.string ⟨s.toArray⟩] 9)).alloc (.cells #[.int .u64 0, .int .i64 0, .int .i64 0, .int .i64 0, .int .i64 0, .slice none 0 0, .slice none 0 0] 65)).alloc (.cells #[.int .u64 ro, .int .i64 rh, .int .i64 rb, .int .i64 rr, .int .i64 rn] 39)) w.heap.size #[.pointer (some ⟨A.ba, 0, none⟩)] 24 := by
    have := Bk.new w #[.pointer (some ⟨A.ba, 0, none⟩)] 24
    exact this.alloc.alloc.alloc.alloc.alloc.alloc
  have k1 : Bk (((((((w.alloc (.cells #[.pointer (some ⟨A.ba, 0, none⟩)] 24)).alloc (.cells #[.int .u64 ro, .int .i64 rh, .int .i64 rb, .int .i64 rr, .int .i64 rn] 39)).alloc (.cells #[.int .i64 at_] 3)).alloc (.cells #[.int .i64 n] 3)).alloc (.cells #[.string ⟨s.toArray⟩] 9)).alloc (.cells #[.int .u64 0, .int .i64 0, .int .i64 0, .int .i64 0, .int .i64 0, .slice none 0 0, .slice none 0 0] 65)).alloc (.cells #[.int .u64 ro, .int .i64 rh, .int .i64 rb, .int .i64 rr, .int .i64 rn] 39)) (w.heap.size + 1) #[.int .u64 ro, .int .i64 rh, .int .i64 rb, .int .i64 rr, .int .i64 rn] 39 := by
    have := Bk.new (w.alloc (.cells #[.pointer (some ⟨A.ba, 0, none⟩)] 24)) #[.int .u64 ro, .int .i64 rh, .int .i64 rb, .int .i64 rr, .int .i64 rn] 39
    simp only [World.size_alloc] at this
    exact this.alloc.alloc.alloc.alloc.alloc
  have k2 : Bk (((((((w.alloc (.cells #[.pointer (some ⟨A.ba, 0, none⟩)] 24)).alloc (.cells #[.int .u64 ro, .int .i64 rh, .int .i64 rb, .int .i64 rr, .int .i64 rn] 39)).alloc (.cells #[.int .i64 at_] 3)).alloc (.cells #[.int .i64 n] 3)).alloc (.cells #[.string ⟨s.toArray⟩] 9)).alloc (.cells #[.int .u64 0, .int .i64 0, .int .i64 0, .int .i64 0, .int .i64 0, .slice none 0 0, .slice none 0 0] 65)).alloc (.cells #[.int .u64 ro, .int .i64 rh, .int .i64 rb, .int .i64 rr, .int .i64 rn] 39)) (w.heap.size + 1 + 1) #[.int .i64 at_] 3 := by
    have := Bk.new ((w.alloc (.cells #[.pointer (some ⟨A.ba, 0, none⟩)] 24)).alloc (.cells #[.int .u64 ro, .int .i64 rh, .int .i64 rb, .int .i64 rr, .int .i64 rn] 39)) #[.int .i64 at_] 3
    simp only [World.size_alloc] at this
    exact this.alloc.alloc.alloc.alloc
  have k3 : Bk (((((((w.alloc (.cells #[.pointer (some ⟨A.ba, 0, none⟩)] 24)).alloc (.cells #[.int .u64 ro, .int .i64 rh, .int .i64 rb, .int .i64 rr, .int .i64 rn] 39)).alloc (.cells #[.int .i64 at_] 3)).alloc (.cells #[.int .i64 n] 3)).alloc (.cells #[.string ⟨s.toArray⟩] 9)).alloc (.cells #[.int .u64 0, .int .i64 0, .int .i64 0, .int .i64 0, .int .i64 0, .slice none 0 0, .slice none 0 0] 65)).alloc (.cells #[.int .u64 ro, .int .i64 rh, .int .i64 rb, .int .i64 rr, .int .i64 rn] 39)) (w.heap.size + 1 + 1 + 1) #[.int .i64 n] 3 := by
    have := Bk.new (((w.alloc (.cells #[.pointer (some ⟨A.ba, 0, none⟩)] 24)).alloc (.cells #[.int .u64 ro, .int .i64 rh, .int .i64 rb, .int .i64 rr, .int .i64 rn] 39)).alloc (.cells #[.int .i64 at_] 3)) #[.int .i64 n] 3
    simp only [World.size_alloc] at this
    exact this.alloc.alloc.alloc
  have k4 : Bk (((((((w.alloc (.cells #[.pointer (some ⟨A.ba, 0, none⟩)] 24)).alloc (.cells #[.int .u64 ro, .int .i64 rh, .int .i64 rb, .int .i64 rr, .int .i64 rn] 39)).alloc (.cells #[.int .i64 at_] 3)).alloc (.cells #[.int .i64 n] 3)).alloc (.cells #[.string ⟨s.toArray⟩] 9)).alloc (.cells #[.int .u64 0, .int .i64 0, .int .i64 0, .int .i64 0, .int .i64 0, .slice none 0 0, .slice none 0 0] 65)).alloc (.cells #[.int .u64 ro, .int .i64 rh, .int .i64 rb, .int .i64 rr, .int .i64 rn] 39)) (w.heap.size + 1 + 1 + 1 + 1) #[.string ⟨s.toArray⟩] 9 := by
    have := Bk.new ((((w.alloc (.cells #[.pointer (some ⟨A.ba, 0, none⟩)] 24)).alloc (.cells #[.int .u64 ro, .int .i64 rh, .int .i64 rb, .int .i64 rr, .int .i64 rn] 39)).alloc (.cells #[.int .i64 at_] 3)).alloc (.cells #[.int .i64 n] 3)) #[.string ⟨s.toArray⟩] 9
    simp only [World.size_alloc] at this
    exact this.alloc.alloc
  have k5 : Bk (((((((w.alloc (.cells #[.pointer (some ⟨A.ba, 0, none⟩)] 24)).alloc (.cells #[.int .u64 ro, .int .i64 rh, .int .i64 rb, .int .i64 rr, .int .i64 rn] 39)).alloc (.cells #[.int .i64 at_] 3)).alloc (.cells #[.int .i64 n] 3)).alloc (.cells #[.string ⟨s.toArray⟩] 9)).alloc (.cells #[.int .u64 0, .int .i64 0, .int .i64 0, .int .i64 0, .int .i64 0, .slice none 0 0, .slice none 0 0] 65)).alloc (.cells #[.int .u64 ro, .int .i64 rh, .int .i64 rb, .int .i64 rr, .int .i64 rn] 39)) (w.heap.size + 1 + 1 + 1 + 1 + 1) #[.int .u64 0, .int .i64 0, .int .i64 0, .int .i64 0, .int .i64 0, .slice none 0 0, .slice none 0 0] 65 := by
    have := Bk.new (((((w.alloc (.cells #[.pointer (some ⟨A.ba, 0, none⟩)] 24)).alloc (.cells #[.int .u64 ro, .int .i64 rh, .int .i64 rb, .int .i64 rr, .int .i64 rn] 39)).alloc (.cells #[.int .i64 at_] 3)).alloc (.cells #[.int .i64 n] 3)).alloc (.cells #[.string ⟨s.toArray⟩] 9)) #[.int .u64 0, .int .i64 0, .int .i64 0, .int .i64 0, .int .i64 0, .slice none 0 0, .slice none 0 0] 65
    simp only [World.size_alloc] at this
    exact this.alloc
  have k6 : Bk (((((((w.alloc (.cells #[.pointer (some ⟨A.ba, 0, none⟩)] 24)).alloc (.cells #[.int .u64 ro, .int .i64 rh, .int .i64 rb, .int .i64 rr, .int .i64 rn] 39)).alloc (.cells #[.int .i64 at_] 3)).alloc (.cells #[.int .i64 n] 3)).alloc (.cells #[.string ⟨s.toArray⟩] 9)).alloc (.cells #[.int .u64 0, .int .i64 0, .int .i64 0, .int .i64 0, .int .i64 0, .slice none 0 0, .slice none 0 0] 65)).alloc (.cells #[.int .u64 ro, .int .i64 rh, .int .i64 rb, .int .i64 rr, .int .i64 rn] 39)) (w.heap.size + 1 + 1 + 1 + 1 + 1 + 1) #[.int .u64 ro, .int .i64 rh, .int .i64 rb, .int .i64 rr, .int .i64 rn] 39 := by
    have := Bk.new ((((((w.alloc (.cells #[.pointer (some ⟨A.ba, 0, none⟩)] 24)).alloc (.cells #[.int .u64 ro, .int .i64 rh, .int .i64 rb, .int .i64 rr, .int .i64 rn] 39)).alloc (.cells #[.int .i64 at_] 3)).alloc (.cells #[.int .i64 n] 3)).alloc (.cells #[.string ⟨s.toArray⟩] 9)).alloc (.cells #[.int .u64 0, .int .i64 0, .int .i64 0, .int .i64 0, .int .i64 0, .slice none 0 0, .slice none 0 0] 65)) #[.int .u64 ro, .int .i64 rh, .int .i64 rb, .int .i64 rr, .int .i64 rn] 39
    simp only [World.size_alloc] at this
    exact this
  have hb7 : Below w.heap.size w (((((((w.alloc (.cells #[.pointer (some ⟨A.ba, 0, none⟩)] 24)).alloc (.cells #[.int .u64 ro, .int .i64 rh, .int .i64 rb, .int .i64 rr, .int .i64 rn] 39)).alloc (.cells #[.int .i64 at_] 3)).alloc (.cells #[.int .i64 n] 3)).alloc (.cells #[.string ⟨s.toArray⟩] 9)).alloc (.cells #[.int .u64 0, .int .i64 0, .int .i64 0, .int .i64 0, .int .i64 0, .slice none 0 0, .slice none 0 0] 65)).alloc (.cells #[.int .u64 ro, .int .i64 rh, .int .i64 rb, .int .i64 rr, .int .i64 rn] 39)) := bal (bal (bal (bal (bal (bal (bal (Below.refl _ _)))))))
  refine (CC.out _ _ _ hb7 k6 (fun W hW => CR.out _ _ _ _ _ W (bcall hb7 hW) (k0.ext hW k0.lt) (k1.ext hW k1.lt) (k2.ext hW k2.lt) (k3.ext hW k3.lt) (k4.ext hW k4.lt)) HL.out.1 HL.out.2).mono ?_
  have hz7 : (((((((w.alloc (.cells #[.pointer (some ⟨A.ba, 0, none⟩)] 24)).alloc (.cells #[.int .u64 ro, .int .i64 rh, .int .i64 rb, .int .i64 rr, .int .i64 rn] 39)).alloc (.cells #[.int .i64 at_] 3)).alloc (.cells #[.int .i64 n] 3)).alloc (.cells #[.string ⟨s.toArray⟩] 9)).alloc (.cells #[.int .u64 0, .int .i64 0, .int .i64 0, .int .i64 0, .int .i64 0, .slice none 0 0, .slice none 0 0] 65)).alloc (.cells #[.int .u64 ro, .int .i64 rh, .int .i64 rb, .int .i64 rr, .int .i64 rn] 39)).heap.size = w.heap.size + 7 := by simp
  clear k0 k1 k2 k3 k4 k6
  generalize (((((((w.alloc (.cells #[.pointer (some ⟨A.ba, 0, none⟩)] 24)).alloc (.cells #[.int .u64 ro, .int .i64 rh, .int .i64 rb, .int .i64 rr, .int .i64 rn] 39)).alloc (.cells #[.int .i64 at_] 3)).alloc (.cells #[.int .i64 n] 3)).alloc (.cells #[.string ⟨s.toArray⟩] 9)).alloc (.cells #[.int .u64 0, .int .i64 0, .int .i64 0, .int .i64 0, .int .i64 0, .slice none 0 0, .slice none 0 0] 65)).alloc (.cells #[.int .u64 ro, .int .i64 rh, .int .i64 rb, .int .i64 rr, .int .i64 rn] 39)) = W0 at *
  rintro e w5 ⟨c, I, xs, ⟨v0, v1, v2, v3, v4⟩, Af, cf, Ad, cd, D, w1, rfl, hA5, hF5, hO5, hD5, hW5, hT5, hN5, hM5, hP5, hK5⟩
  have hk5 : Bk w5 (w.heap.size + 1 + 1 + 1 + 1 + 1) #[.int .u64 0, .int .i64 0, .int .i64 0, .int .i64 0, .int .i64 0, .slice none 0 0, .slice none 0 0] 65 := (hF5.block _ k5.lt (fun q => by have := HAL.out _ q; omega)).trans k5
  obtain ⟨y0, y1, y2, y3, y4, y5, y6, f0, f1, f2, f3, f4, f5, f6⟩ := hk5.seven
  have hl5 := hk5.lt
  have HB7 := Lib.hid hb7; have HZ7 := Lib.hid hz7
  have HA5 := Lib.hid hA5; have HF5 := Lib.hid ((FrT.of_below hb7).trans hF5); have HO5 := Lib.hid hO5; have HD5 := Lib.hid hD5; have HW5 := Lib.hid hW5; have HT5 := Lib.hid hT5; have HN5 := Lib.hid hN5; have HM5 := Lib.hid hM5; have HP5 := Lib.hid hP5; have HKIN := Lib.hid hK5; have HK5 := Lib.hid hk5
  clear hA5 hF5 hO5 hD5 hW5 hT5 hN5 hM5 hP5 hK5 hk5 k5 hb7 hz7 CC CR
  go_wp2_with fail
  have K9 : Bk (((((((w5.setCell ⟨w.heap.size + 1 + 1 + 1 + 1 + 1, 0, none⟩ (.int .u64 v0)).setCell ⟨w.heap.size + 1 + 1 + 1 + 1 + 1, 1, none⟩ (.int .i64 v1)).setCell ⟨w.heap.size + 1 + 1 + 1 + 1 + 1, 2, none⟩ (.int .i64 v2)).setCell ⟨w.heap.size + 1 + 1 + 1 + 1 + 1, 3, none⟩ (.int .i64 v3)).setCell ⟨w.heap.size + 1 + 1 + 1 + 1 + 1, 4, none⟩ (.int .i64 v4)).setCell ⟨w.heap.size + 1 + 1 + 1 + 1 + 1, 5, none⟩ (.slice Af xs.length cf)).setCell ⟨w.heap.size + 1 + 1 + 1 + 1 + 1, 6, none⟩ (.slice Ad D.length cd)) (w.heap.size + 1 + 1 + 1 + 1 + 1) #[.int .u64 v0, .int .i64 v1, .int .i64 v2, .int .i64 v3, .int .i64 v4, .slice Af xs.length cf, .slice Ad D.length cd] 65 := ((((((HK5.out.set 0 _).set 1 _).set 2 _).set 3 _).set 4 _).set 5 _).set 6 _
  have E9 : ∀ b, b ≠ w.heap.size + 1 + 1 + 1 + 1 + 1 → (((((((w5.setCell ⟨w.heap.size + 1 + 1 + 1 + 1 + 1, 0, none⟩ (.int .u64 v0)).setCell ⟨w.heap.size + 1 + 1 + 1 + 1 + 1, 1, none⟩ (.int .i64 v1)).setCell ⟨w.heap.size + 1 + 1 + 1 + 1 + 1, 2, none⟩ (.int .i64 v2)).setCell ⟨w.heap.size + 1 + 1 + 1 + 1 + 1, 3, none⟩ (.int .i64 v3)).setCell ⟨w.heap.size + 1 + 1 + 1 + 1 + 1, 4, none⟩ (.int .i64 v4)).setCell ⟨w.heap.size + 1 + 1 + 1 + 1 + 1, 5, none⟩ (.slice Af xs.length cf)).setCell ⟨w.heap.size + 1 + 1 + 1 + 1 + 1, 6, none⟩ (.slice Ad D.length cd)).heap[b]? = w5.heap[b]? := fun b hb => by simp [Below.heap_setCell _ _ _ _ (show b ≠ (⟨w.heap.size + 1 + 1 + 1 + 1 + 1, _, none⟩ : Addr).block from hb)]
  have F9 : FrT (arT A) w (((((((w5.setCell ⟨w.heap.size + 1 + 1 + 1 + 1 + 1, 0, none⟩ (.int .u64 v0)).setCell ⟨w.heap.size + 1 + 1 + 1 + 1 + 1, 1, none⟩ (.int .i64 v1)).setCell ⟨w.heap.size + 1 + 1 + 1 + 1 + 1, 2, none⟩ (.int .i64 v2)).setCell ⟨w.heap.size + 1 + 1 + 1 + 1 + 1, 3, none⟩ (.int .i64 v3)).setCell ⟨w.heap.size + 1 + 1 + 1 + 1 + 1, 4, none⟩ (.int .i64 v4)).setCell ⟨w.heap.size + 1 + 1 + 1 + 1 + 1, 5, none⟩ (.slice Af xs.length cf)).setCell ⟨w.heap.size + 1 + 1 + 1 + 1 + 1, 6, none⟩ (.slice Ad D.length cd)) := ((((((HF5.out.set (.inr (by simp; omega)) _).set (.inr (by simp; omega)) _).set (.inr (by simp; omega)) _).set (.inr (by simp; omega)) _).set (.inr (by simp; omega)) _).set (.inr (by simp; omega)) _).set (.inr (by simp; omega)) _
  have S9 : (((((((w5.setCell ⟨w.heap.size + 1 + 1 + 1 + 1 + 1, 0, none⟩ (.int .u64 v0)).setCell ⟨w.heap.size + 1 + 1 + 1 + 1 + 1, 1, none⟩ (.int .i64 v1)).setCell ⟨w.heap.size + 1 + 1 + 1 + 1 + 1, 2, none⟩ (.int .i64 v2)).setCell ⟨w.heap.size + 1 + 1 + 1 + 1 + 1, 3, none⟩ (.int .i64 v3)).setCell ⟨w.heap.size + 1 + 1 + 1 + 1 + 1, 4, none⟩ (.int .i64 v4)).setCell ⟨w.heap.size + 1 + 1 + 1 + 1 + 1, 5, none⟩ (.slice Af xs.length cf)).setCell ⟨w.heap.size + 1 + 1 + 1 + 1 + 1, 6, none⟩ (.slice Ad D.length cd)).heap.size = w5.heap.size := by simp
  generalize (((((((w5.setCell ⟨w.heap.size + 1 + 1 + 1 + 1 + 1, 0, none⟩ (.int .u64 v0)).setCell ⟨w.heap.size + 1 + 1 + 1 + 1 + 1, 1, none⟩ (.int .i64 v1)).setCell ⟨w.heap.size + 1 + 1 + 1 + 1 + 1, 2, none⟩ (.int .i64 v2)).setCell ⟨w.heap.size + 1 + 1 + 1 + 1 + 1, 3, none⟩ (.int .i64 v3)).setCell ⟨w.heap.size + 1 + 1 + 1 + 1 + 1, 4, none⟩ (.int .i64 v4)).setCell ⟨w.heap.size + 1 + 1 + 1 + 1 + 1, 5, none⟩ (.slice Af xs.length cf)).setCell ⟨w.heap.size + 1 + 1 + 1 + 1 + 1, 6, none⟩ (.slice Ad D.length cd)) = W9 at *
  obtain ⟨j0, j1, j2, j3, j4, j5, j6, -⟩ := K9.seven
  have hz7 := HZ7.out
  refine bodyPost_ret (v := .tuple #[.agg #[.int .u64 v0, .int .i64 v1, .int .i64 v2, .int .i64 v3, .int .i64 v4, .slice Af xs.length cf, .slice Ad D.length cd], .int .i64 0]) (by simp [results, Tryz.results18, go_sem, j0, j1, j2, j3, j4, j5, j6]) rfl ⟨xs, ⟨v0, v1, v2, v3, v4⟩, Af, cf, Ad, cd, D, rfl, ?_, F9, ?_, ?_, ⟨c, I, w1, HP5.out, HW5.out, HT5.out, HM5.out, HKIN.out⟩, HN5.out⟩
  · exact HA5.out.setRt (fun k hk => E9 k (by have := HAL.out k hk; omega)) (by omega) (fun b cs hq => (E9 b (bk_ne hq HK5.out (by decide))).trans hq)
  · exact (HO5.out.kept fun g hg => E9 g (HO5.out.ne_bk HK5.out (by decide) g hg)).base (by omega)
  · exact (HD5.out.kept fun g hg => E9 g (HD5.out.ne_bk HK5.out (by decide) g hg)).base (by omega)
/-- how many nodes are new -/
theorem WrV.len {G : Ar} {xs : List Nd} {r : Rt} {I : PI} (h : WrV G xs r I) : xs.length = I.n := by
  rcases h with ⟨-, rfl, rfl⟩ | ⟨h, k, -, a⟩
  · rfl
  · exact a.n

set_option maxHeartbeats 2000000 in
set_option maxRecDepth 100000 in
theorem rnew_any (A : AF) (G : Ar) (s : List UInt8) (w : World) (hA : ArM w A G) (hs : s.length ≤ 4096) (hn : G.length + (s.length / 4 + 1) ≤ 999) :
    Calls Tryz.prog 16 #[.pointer (some ⟨A.ba, 0, none⟩), .string ⟨s.toArray⟩] w fun e w' => ∃ (xs : List Nd) (r : Rt) (I : PI), e = .returned (.tuple #[r.v, .int .i64 0]) ∧ ArM w' A (G ++ xs) ∧ FrT (arT A) w w' ∧ WrV G xs r I ∧ I.T = s ∧ I.K = [] ∧ xs.length ≤ s.length / 4 + 1 := by
  have cB := fun W (p : Below w.heap.size w W) => build_any (hA.ext p).ok s W (by omega)
  have cW := fun c I W (p : Below w.heap.size w W) (q : PE G FT W c I) (t : I.T = s) => write_any A G c I W (hA.ext p) q (by rw [t]; omega) (by have := q.news hA.ok; rw [t] at this; omega)
  have HAL := Lib.hid (fun k (hk : arT A k) => hA.lt hk)
  have HNW := Lib.hid (fun W c I (q : PE G FT W c I) => q.news hA.ok)
  unfold TC.v Rt.v at *
  have CB := Lib.hid cB; have CW := Lib.hid cW
  clear cB cW hA hs hn
  go_enter Tryz.func16, Tryz.ntmps16
  go_wp2_with fail
  have hb0 : Below w.heap.size w (w.alloc (.cells #[.int .u64 0, .int .i64 0, .int .i64 0, .int .i64 0, .int .i64 0] 39)) := bal (Below.refl _ _)
  have hk0 := Bk.new w #[.int .u64 0, .int .i64 0, .int .i64 0, .int .i64 0, .int .i64 0] 39
  refine (CB.out _ hb0).mono ?_
  generalize w.alloc (.cells #[.int .u64 0, .int .i64 0, .int .i64 0, .int .i64 0, .int .i64 0] 39) = W0 at *
  rintro e w1 ⟨c, I, rfl, ⟨hq, ht, hK⟩, hb1⟩
  have HB1 := Lib.hid (bcall hb0 hb1); have HK1 := Lib.hid (hk0.ext hb1 hk0.lt); have HQ := Lib.hid hq; have HT := Lib.hid ht; have HKE := Lib.hid hK
  clear hb0 hk0 hq ht hK hb1 CB
  go_wp2_with fail
  refine (CW.out c I _ (bal HB1.out) (HQ.out.ext (bal (Below.refl _ _))) HT.out).mono ?_
  rintro e w5 ⟨xs, ⟨v0, v1, v2, v3, v4⟩, Av, cc, rfl, hA5, hF5, -, hW5⟩
  have hlk := HK1.out.lt
  have hk5 : Bk w5 w.heap.size #[.int .u64 0, .int .i64 0, .int .i64 0, .int .i64 0, .int .i64 0] 39 := (hF5.block _ (by simp; omega) (fun q => by have := HAL.out _ q; omega)).trans HK1.out.alloc
  have HA5 := Lib.hid hA5; have HF5 := Lib.hid ((FrT.of_below (bal HB1.out)).trans hF5); have HW5 := Lib.hid hW5; have HK5 := Lib.hid hk5
  clear hA5 hF5 hW5 hk5 CW
  go_upto_region 7 with (fail)
  have k6 := HK5.out.alloc (o := .cells #[.int .u64 v0, .int .i64 v1, .int .i64 v2, .int .i64 v3, .int .i64 v4] 39)
  have k7 := Bk.new w5 #[.int .u64 v0, .int .i64 v1, .int .i64 v2, .int .i64 v3, .int .i64 v4] 39
  have HA6 := Lib.hid (HA5.out.ext (bal (o := .cells #[.int .u64 v0, .int .i64 v1, .int .i64 v2, .int .i64 v3, .int .i64 v4] 39) (Below.refl _ _)))
  have HF6 := Lib.hid (HF5.out.alloc (o := .cells #[.int .u64 v0, .int .i64 v1, .int .i64 v2, .int .i64 v3, .int .i64 v4] 39))
  generalize (w5.alloc (.cells #[.int .u64 v0, .int .i64 v1, .int .i64 v2, .int .i64 v3, .int .i64 v4] 39)) = W6 at *
  obtain ⟨z0, z1, z2, z3, z4, -⟩ := k7.five
  have hl7 := k7.lt
  obtain ⟨y0, y1, y2, y3, y4, f0, f1, f2, f3, f4⟩ := k6.five
  have hl6 := k6.lt
  have HK6 := Lib.hid k6
  clear k6 k7
  go_wp2_with fail
  have K9 : Bk (((((W6.setCell ⟨w.heap.size, 0, none⟩ (.int .u64 v0)).setCell ⟨w.heap.size, 1, none⟩ (.int .i64 v1)).setCell ⟨w.heap.size, 2, none⟩ (.int .i64 v2)).setCell ⟨w.heap.size, 3, none⟩ (.int .i64 v3)).setCell ⟨w.heap.size, 4, none⟩ (.int .i64 v4)) w.heap.size #[.int .u64 v0, .int .i64 v1, .int .i64 v2, .int .i64 v3, .int .i64 v4] 39 := ((((HK6.out.set 0 _).set 1 _).set 2 _).set 3 _).set 4 _
  have E9 : ∀ b, b ≠ w.heap.size → (((((W6.setCell ⟨w.heap.size, 0, none⟩ (.int .u64 v0)).setCell ⟨w.heap.size, 1, none⟩ (.int .i64 v1)).setCell ⟨w.heap.size, 2, none⟩ (.int .i64 v2)).setCell ⟨w.heap.size, 3, none⟩ (.int .i64 v3)).setCell ⟨w.heap.size, 4, none⟩ (.int .i64 v4)).heap[b]? = W6.heap[b]? := fun b hb => by simp [Below.heap_setCell _ _ _ _ (show b ≠ (⟨w.heap.size, _, none⟩ : Addr).block from hb)]
  have F9 : FrT (arT A) w (((((W6.setCell ⟨w.heap.size, 0, none⟩ (.int .u64 v0)).setCell ⟨w.heap.size, 1, none⟩ (.int .i64 v1)).setCell ⟨w.heap.size, 2, none⟩ (.int .i64 v2)).setCell ⟨w.heap.size, 3, none⟩ (.int .i64 v3)).setCell ⟨w.heap.size, 4, none⟩ (.int .i64 v4)) := ((((HF6.out.set (.inr (by simp)) _).set (.inr (by simp)) _).set (.inr (by simp)) _).set (.inr (by simp)) _).set (.inr (by simp)) _
  have S9 : (((((W6.setCell ⟨w.heap.size, 0, none⟩ (.int .u64 v0)).setCell ⟨w.heap.size, 1, none⟩ (.int .i64 v1)).setCell ⟨w.heap.size, 2, none⟩ (.int .i64 v2)).setCell ⟨w.heap.size, 3, none⟩ (.int .i64 v3)).setCell ⟨w.heap.size, 4, none⟩ (.int .i64 v4)).heap.size = W6.heap.size := by simp
  generalize (((((W6.setCell ⟨w.heap.size, 0, none⟩ (.int .u64 v0)).setCell ⟨w.heap.size, 1, none⟩ (.int .i64 v1)).setCell ⟨w.heap.size, 2, none⟩ (.int .i64 v2)).setCell ⟨w.heap.size, 3, none⟩ (.int .i64 v3)).setCell ⟨w.heap.size, 4, none⟩ (.int .i64 v4)) = W9 at *
  obtain ⟨j0, j1, j2, j3, j4, -⟩ := K9.five
  refine bodyPost_ret (v := .tuple #[.agg #[.int .u64 v0, .int .i64 v1, .int .i64 v2, .int .i64 v3, .int .i64 v4], .int .i64 0]) (by simp [results, Tryz.results16, go_sem, j0, j1, j2, j3, j4]) rfl ⟨xs, ⟨v0, v1, v2, v3, v4⟩, I, rfl, ?_, F9, HW5.out, HT.out, HKE.out, by
    have := HNW.out _ _ _ HQ.out
    rw [HT.out] at this
    rw [HW5.out.len]
    exact this⟩
  exact HA6.out.setRt (fun k hk => E9 k (by have := HAL.out k hk; omega)) (by omega) (fun b cs hq => (E9 b (bk_ne hq HK6.out (by decide))).trans hq)

end Go.Proofs.YtclmjnobacepjaaGreat

/- A range over a function value that has captured variables: the contract of such an iterator, and the loop over it. Rounds may append to rows of the caller's own. No condition. -/
namespace Go.Proofs.YtclmjnobacepjaaGreat
open Go.RowKit Go.Shelf

theorem room_none {F : Fence} (hd : F.depth = none) (k : Nat) : F.room k := fun d h => by rw [hd] at h; cases h
theorem RoundIn.anyD {F : Fence} (hd : F.depth = none) {m m' : Nat} {P : Program} {l : Nat} {f : FuncId} {tmps : Array Value} {assign body : Code} {w : World} {R : Ending → World → Prop}
    (h : RoundIn F m P l f tmps assign body w R) : RoundIn F m' P l f tmps assign body w R := ⟨h.1, fun c cs _ => h.2 c cs (room_none hd _)⟩
theorem YieldAt.anyD {F : Fence} (hd : F.depth = none) {m : Nat} (m' : Nat) {P : Program} {l : Nat} {args : Array Value} {W : World} {R : Ending → World → Prop} (h : YieldAt F m P l args W R) : YieldAt F m' P l args W R := by
  obtain ⟨fn, tmps, assign, body, hy, hR⟩ := h
  exact ⟨fn, tmps, assign, body, hy, RoundIn.anyD hd hR⟩

/-- what the iterator reads again behind a round -/
def KT (t : TypeId) : Prop := t = 114 ∨ t = 84 ∨ t = 109 ∨ t = 110 ∨ t = 24 ∨ t = 39
def KpT (A B : World) : Prop := A.heap.size ≤ B.heap.size ∧ ∀ b cur t, KT t → Bk A b cur t → Bk B b cur t
theorem KpT.refl (A : World) : KpT A A := ⟨Nat.le_refl _, fun _ _ _ _ h => h⟩
theorem KpT.trans {A B C : World} (h : KpT A B) (h' : KpT B C) : KpT A C := ⟨Nat.le_trans h.1 h'.1, fun b c t ht q => h'.2 b c t ht (h.2 b c t ht q)⟩
theorem KpT.of_below {A B : World} (h : Below A.heap.size A B) : KpT A B := ⟨h.size, fun _ _ _ _ q => q.ext h q.lt⟩
theorem Ow.keepP {w w' : World} {B : Nat} {v : Value} {l : List Kd} (h : Ow kdE w B 114 v l) (hk : KpT w w') : Ow kdE w' B 114 v l := by
  refine h.kept fun g hg => ?_
  obtain ⟨cur, q⟩ := h.blk g hg
  exact (hk.2 g cur _ (.inl rfl) q).trans q.symm

/-- an iterator that hands over the elements of xs in order, each with some more, until a round says 'no more'; it makes new blocks alone -/
def CIter {α β : Type} (P : Program) (g : Nat) (lb : Array Value) (encs : α → β → Array Value) (w0 : World) (xs : List α) (w : World) : Prop :=
  ∀ (n l : Nat) (J : Nat → World → Prop) (Jx : World → Prop) (W : World), Below w.heap.size w W →
    (∀ k A B, J k A → Below A.heap.size A B → J k B) → (∀ A B, Jx A → Below A.heap.size A B → Jx B) → (∀ k A, J k A → Below w0.heap.size w0 A) →
    (∀ (k : Nat) (x : α) (v : β) (A : World), xs[k]? = some x → J k A → YieldAt Fence.wide (n - 1) P l (encs x v) A fun e B =>
      (e = .returned (.bool true) ∧ J (k + 1) B ∧ KpT A B) ∨ (e = .returned (.bool false) ∧ Jx B)) →
    J 0 W → CallsIn Fence.wide n P g (#[.func (.yield l) #[] #[]] ++ lb) W fun e B => (∃ v, e = .returned v) ∧ (J xs.length B ∨ Jx B)

/-- what a round keeps: what the iterator reads, the loop's record (m + 1) and the deferred calls (m) -/
def RndK (m : Nat) (A B : World) : Prop := KpT A B ∧ B.heap[m]? = A.heap[m]? ∧ B.heap[m + 1]? = A.heap[m + 1]?
def roundC (m : Nat) (I : Nat → World → Prop) (Ix : Code → World → Prop) (k : Nat) (A : World) : Exit → Act → World → Prop
  | .normal, _, B => RndK m A B ∧ I (k + 1) B
  | .ret, _, B => RndK m A B ∧ Ix .ret B
  | .exit id, _, B => RndK m A B ∧ Ix (.exit id) B
  | .goto _, _, _ => False
  | .panic _, _, _ => False
  | .outgrown, _, _ => False
theorem KpT.putObj {A : World} {l : Nat} {o : Obj} {r : Loop} (h : A.heap[l]? = some (.loop r)) : KpT A (A.putObj l o) :=
  ⟨by simp, fun b cur t _ q => (World.putObj_heap_other (fun e => by subst e; unfold Bk at q; rw [h] at q; cases q)).trans q⟩

theorem wpIn_rangeC {α β : Type} {P : Program} {n : Nat} {g : Operand} {ps : Array Tmp} {assign body : Code} {Q : Exit → Act → World → Prop} {a : Act} {w : World}
    {gf : Nat} {lb : Array Value} (hg : a.eval g = .func (.func gf) #[] lb) (eg : Enters P gf)
    {encs : α → β → Array Value} {w0 : World} {xs : List α} (hit : CIter P gf lb encs w0 xs w) (hps : ∀ x v, (encs x v).size = ps.size)
    (I : Nat → World → Prop) (Ix : Code → World → Prop)
    (hI : ∀ k A B, I k A → Below A.heap.size A B → I k B) (hIx : ∀ c A B, Ix c A → Below A.heap.size A B → Ix c B)
    (hIr : ∀ k A B r, I k A → A.heap[w.heap.size + 1]? = some (.loop r) → FrT (fun j => j = w.heap.size + 1) A B → B.heap.size = A.heap.size → I k B) (hIxr : ∀ c A B r, Ix c A → A.heap[w.heap.size + 1]? = some (.loop r) → FrT (fun j => j = w.heap.size + 1) A B → B.heap.size = A.heap.size → Ix c B)
    (hIb : ∀ k A, I k A → Below w0.heap.size w0 A) (h0 : I 0 w)
    (hround : ∀ (l k : Nat) (x : α) (v : β) (W : World), xs[k]? = some x → I k W → w.heap.size + 1 + 1 ≤ W.heap.size →
      assign.wpIn (Fence.wide.inRound l) (n - 1 - 1) P (Exit.then (fun a₁ W1 => Below W.heap.size W W1 ∧ ∀ W2 r, FrT (fun j => j = w.heap.size + 1) W1 W2 → W2.heap.size = W1.heap.size → W2.heap[w.heap.size + 1]? = some (.loop r) → W2.heap[w.heap.size]? = some (.deferred (some [])) → I k W2 → body.wpIn (Fence.wide.inRound l) (n - 1 - 1) P (roundC w.heap.size I Ix k W2) a₁ W2) (fun _ _ _ => False))
        { tmps := (ps.zip (encs x v)).foldl (fun t (p, v) => t.setIfInBounds p v) a.tmps, defers := [] } W)
    (hdone : ∀ (D : Nat) (W : World), w.heap.size ≤ D → I xs.length W → W.heap[D]? = some (.deferred (some [])) → Q .normal { a with defers := { target := .collected D, args := #[] } :: a.defers } W)
    (hstop : ∀ (D : Nat) (c : Code) (W : World), w.heap.size ≤ D → Ix c W → W.heap[D]? = some (.deferred (some [])) → c.wpIn Fence.wide n P Q { a with defers := { target := .collected D, args := #[] } :: a.defers } W) :
    (Code.rangeFunc g ps assign body).wpIn Fence.wide n P Q a w := by
  refine wpIn_rangeFunc ?_
  intro fn hfn
  obtain ⟨rec, hrec⟩ : ∃ rec : LoopState → Option Code → Loop, rec = fun st pe => { state := st, pending := pe, fn, tmps := a.tmps, params := ps, assign, body, defers := w.heap.size } := ⟨_, rfl⟩
  obtain ⟨W1, hW1⟩ : ∃ W1, (w.alloc (.deferred (some []))).alloc (.loop (rec .ready none)) = W1 := ⟨_, rfl⟩
  have hz1 : W1.heap.size = w.heap.size + 1 + 1 := by rw [← hW1]; simp
  have hL1 : W1.heap[w.heap.size + 1]? = some (.loop (rec .ready none)) := by
    rw [← hW1]; have := World.alloc_heap_new (w.alloc (.deferred (some []))) (.loop (rec .ready none)); rwa [World.size_alloc] at this
  have hK1 : W1.heap[w.heap.size]? = some (.deferred (some [])) := by
    rw [← hW1]; exact (Below.heap_alloc _ _ _ (by simp)).trans (World.alloc_heap_new w _)
  have hb1 : Below w.heap.size w W1 := by
    rw [← hW1]; exact ((Below.refl _ w).alloc (Nat.le_refl _) _).alloc (by simp) _
  have hput : ∀ (A : World) (o : Obj), FrT (fun j => j = w.heap.size + 1) A (A.putObj (w.heap.size + 1) o) := fun A o => ⟨rfl, rfl, rfl, by simp, fun j _ hj => World.putObj_heap_other hj⟩
  refine ⟨w.heap.size + 1, [{ target := .collected w.heap.size, args := #[] }], W1, { target := .fn (.func gf) lb, args := #[.func (.yield (w.heap.size + 1)) #[] #[]] }, W1, gf,
    #[.func (.yield (w.heap.size + 1)) #[] #[]] ++ lb, W1, ?_, ?_, ?_, ?_, fun h => by simp [Fence.wide] at h, ?_⟩
  · rw [← hW1, hrec]; exact run_enterLoop_outer _ _ _ _ _
  · simp only [resolve, hg]
    simp [go_sem]
  · intro f' _; trivial
  · simp [invoke, go_sem, eg _ _]
  · refine (hit (n - 1) (w.heap.size + 1)
      (fun k W => (I k W ∧ w.heap.size + 1 + 1 ≤ W.heap.size) ∧ W.heap[w.heap.size + 1]? = some (.loop (rec .ready none)) ∧ W.heap[w.heap.size]? = some (.deferred (some [])))
      (fun W => ∃ c, (Ix c W ∧ w.heap.size + 1 + 1 ≤ W.heap.size) ∧ W.heap[w.heap.size + 1]? = some (.loop (rec .done (some c))) ∧ W.heap[w.heap.size]? = some (.deferred (some [])))
      W1 hb1 ?_ ?_ ?_ ?_ ?_).mono ?_
    · rintro k A B ⟨⟨h1, h2⟩, h3, h4⟩ hb
      exact ⟨⟨hI k A B h1 hb, Nat.le_trans h2 hb.size⟩, (hb.block _ (by omega)).trans h3, (hb.block _ (by omega)).trans h4⟩
    · rintro A B ⟨c, ⟨h1, h2⟩, h3, h4⟩ hb
      exact ⟨c, ⟨hIx c A B h1 hb, Nat.le_trans h2 hb.size⟩, (hb.block _ (by omega)).trans h3, (hb.block _ (by omega)).trans h4⟩
    · rintro k A ⟨⟨h1, h2⟩, -, -⟩
      exact hIb k A h1
    · -- one round
      rintro k x v A hx ⟨⟨hi, hlt⟩, hl, hk⟩
      have hy := run_yield (P := P) (args := encs x v) hl (by rw [hrec]; exact hps x v)
      rw [hrec] at hy
      refine ⟨fn, _, assign, body, hy, roundIn_of_wpIn hfn (wpIn_mono (hround (w.heap.size + 1) k x v A hx hi hlt) ?_)⟩
      rintro e0 a1 A1 hp0
      cases e0 with
      | normal => ?_
      | _ => exact hp0.elim
      obtain ⟨hb1', hp1⟩ := hp0
      have hz1' := hb1'.size
      have hl1 := (hb1'.block (w.heap.size + 1) (by omega)).trans hl
      have hk1 := (hb1'.block w.heap.size (by omega)).trans hk
      refine ⟨_, run_beginRound hl1 (by rw [hrec]), ?_⟩
      have hkp : KpT A1 (A1.putObj (w.heap.size + 1) (.loop { rec .ready none with state := .busy })) := KpT.putObj hl1
      have hia := hIr k A1 _ _ (hI k A A1 hi hb1') hl1 (hput A1 (.loop { rec .ready none with state := .busy })) (by simp)
      have hf2' := hput A1 (.loop { rec .ready none with state := .busy })
      obtain ⟨A2, hA2⟩ : ∃ A2, A1.putObj (w.heap.size + 1) (.loop { rec .ready none with state := .busy }) = A2 := ⟨_, rfl⟩
      rw [hA2] at hkp hia hf2' ⊢
      have hz2 : A2.heap.size = A1.heap.size := by rw [← hA2]; simp
      have hl2 : A2.heap[w.heap.size + 1]? = some (.loop { rec .ready none with state := .busy }) := by rw [← hA2]; exact World.putObj_heap_same (by omega)
      have hk2 : A2.heap[w.heap.size]? = some (.deferred (some [])) := by rw [← hA2]; exact (World.putObj_heap_other (by omega)).trans hk1
      refine wpIn_mono (hp1 A2 _ hf2' hz2 hl2 hk2 hia) ?_
      have fin : ∀ (jump : Option Code) (B : World), RndK w.heap.size A2 B →
          (Instr.endRound (w.heap.size + 1) jump).run P B = .ok (.bool jump.isNone) (B.putObj (w.heap.size + 1) (.loop (rec (if jump.isNone then .ready else .done) jump))) ∧
          (B.putObj (w.heap.size + 1) (.loop (rec (if jump.isNone then .ready else .done) jump))).heap[w.heap.size + 1]? = some (.loop (rec (if jump.isNone then .ready else .done) jump)) ∧
          (B.putObj (w.heap.size + 1) (.loop (rec (if jump.isNone then .ready else .done) jump))).heap[w.heap.size]? = some (.deferred (some [])) ∧
          (B.heap[w.heap.size + 1]? = some (.loop { rec .ready none with state := .busy })) ∧ w.heap.size + 1 + 1 ≤ B.heap.size ∧
          KpT A (B.putObj (w.heap.size + 1) (.loop (rec (if jump.isNone then .ready else .done) jump))) := fun jump B hf => by
        have hzB := hf.1.1
        have hl3 : B.heap[w.heap.size + 1]? = some (.loop { rec .ready none with state := .busy }) := hf.2.2.trans hl2
        have hk3 : B.heap[w.heap.size]? = some (.deferred (some [])) := hf.2.1.trans hk2
        have hr := run_endRound (P := P) jump hl3
        rw [hrec] at hr ⊢
        refine ⟨hr, World.putObj_heap_same (by omega), (World.putObj_heap_other (by omega)).trans hk3, by rw [hrec] at hl3; exact hl3, by omega, ?_⟩
        exact (((KpT.of_below hb1').trans hkp).trans hf.1).trans (KpT.putObj hl3)
      rintro e a3 B hp
      cases e with
      | normal =>
        obtain ⟨hf, hi3⟩ := hp
        obtain ⟨hr, h1, h2, h3, h4, h5⟩ := fin none B hf
        exact ⟨_, _, hr, .inl ⟨rfl, ⟨⟨hIr _ _ _ _ hi3 h3 (hput B _) (by simp), by simp; omega⟩, h1, h2⟩, h5⟩⟩
      | ret =>
        obtain ⟨hf, hi3⟩ := hp
        obtain ⟨hr, h1, h2, h3, h4, h5⟩ := fin (some .ret) B hf
        exact ⟨_, _, hr, .inr ⟨rfl, .ret, ⟨hIxr _ _ _ _ hi3 h3 (hput B _) (by simp), by simp; omega⟩, h1, h2⟩⟩
      | exit id =>
        obtain ⟨hf, hi3⟩ := hp
        obtain ⟨hr, h1, h2, h3, h4, h5⟩ := fin (some (.exit id)) B hf
        exact ⟨_, _, hr, .inr ⟨rfl, .exit id, ⟨hIxr _ _ _ _ hi3 h3 (hput B _) (by simp), by simp; omega⟩, h1, h2⟩⟩
      | goto t => exact hp.elim
      | panic ch => exact hp.elim
      | outgrown => exact hp.elim
    · have h0' : Below w.heap.size w W1 := hb1
      exact ⟨⟨hI 0 w W1 h0 hb1, by omega⟩, hL1, hK1⟩
    · -- behind the iterator
      rintro e B ⟨⟨v, rfl⟩, (⟨⟨hi, hz⟩, hl, hk⟩ | ⟨c, ⟨hi, hz⟩, hl, hk⟩)⟩
      · exact ⟨none, _, by have := run_endLoop (P := P) hl (by rw [hrec]; simp); rw [hrec] at this; exact this, hdone _ _ (Nat.le_refl _) (hIr _ _ _ _ hi hl (hput B _) (by simp)) ((World.putObj_heap_other (by omega)).trans hk)⟩
      · exact ⟨some c, _, by have := run_endLoop (P := P) hl (by rw [hrec]; simp); rw [hrec] at this; exact this, hstop _ c _ (Nat.le_refl _) (hIxr _ _ _ _ hi hl (hput B _) (by simp)) ((World.putObj_heap_other (by omega)).trans hk)⟩

end Go.Proofs.YtclmjnobacepjaaGreat
