/- edit.change at one root. -/
import Derived.Test.YtclmjnobacepjaaGreatJ32
namespace Go.Proofs.YtclmjnobacepjaaGreat
open Go.RowKit

/-- change's variables: the plan (b), the change (b + 1), the set (b + 2); what has been dropped -/
structure ChS (w1 : World) (c : TC) (B : Nat) (L : List Nat) (W : World) : Prop where
  below : Below w1.heap.size w1 W
  tree : Bk W w1.heap.size #[.int .u64 c.old, .int .i64 c.ht, .int .i64 c.b, .int .i64 c.r, .int .i64 c.n, .string ⟨c.t.toArray⟩, .slice c.kp c.kl c.kc] 76
  chg : ∃ A cc, Bk W (w1.heap.size + 1) #[.int .u64 0, .int .i64 0, .int .i64 0, .int .i64 0, .int .i64 0, .slice none 0 0, .slice A L.length cc] 65 ∧ Ow hndE W B 35 (.slice A L.length cc) (L.map hd)
  set : SetM W (w1.heap.size + 1 + 1) L
theorem ChS.ext {w1 : World} {c : TC} {B : Nat} {L : List Nat} {W W' : World} (s : ChS w1 c B L W) (hb : Below W.heap.size W W') : ChS w1 c B L W' := by
  obtain ⟨A, cc, h1, h2⟩ := s.chg
  exact ⟨bcall s.below hb, s.tree.ext hb s.tree.lt, ⟨A, cc, h1.ext hb h1.lt, h2.ext hb (Nat.le_refl _)⟩, s.set.ext hb s.set.lt⟩
theorem ChS.base {w1 : World} {c : TC} {B B' : Nat} {L : List Nat} {W : World} (s : ChS w1 c B L W) (h : B' ≤ B) : ChS w1 c B' L W := by
  obtain ⟨A, cc, h1, h2⟩ := s.chg
  exact ⟨s.below, s.tree, ⟨A, cc, h1, h2.base h⟩, s.set⟩
/-- the state with nothing dropped yet -/
def ChS0 (w1 : World) (c : TC) (W : World) : Prop := Below w1.heap.size w1 W ∧ Bk W w1.heap.size #[.int .u64 c.old, .int .i64 c.ht, .int .i64 c.b, .int .i64 c.r, .int .i64 c.n, .string ⟨c.t.toArray⟩, .slice c.kp c.kl c.kc] 76 ∧ Bk W (w1.heap.size + 1) #[.int .u64 0, .int .i64 0, .int .i64 0, .int .i64 0, .int .i64 0, .slice none 0 0, .slice none 0 0] 65 ∧ SetM W (w1.heap.size + 1 + 1) []
theorem ChS0.ext {w1 : World} {c : TC} {W W' : World} (s : ChS0 w1 c W) (hb : Below W.heap.size W W') : ChS0 w1 c W' := ⟨bcall s.1 hb, s.2.1.ext hb s.2.1.lt, s.2.2.1.ext hb s.2.2.1.lt, s.2.2.2.ext hb s.2.2.2.lt⟩
theorem ChS0.start (w1 : World) (c : TC) : ChS0 w1 c (((w1.alloc (.cells #[.int .u64 c.old, .int .i64 c.ht, .int .i64 c.b, .int .i64 c.r, .int .i64 c.n, .string ⟨c.t.toArray⟩, .slice c.kp c.kl c.kc] 76)).alloc (.cells #[.int .u64 0, .int .i64 0, .int .i64 0, .int .i64 0, .int .i64 0, .slice none 0 0, .slice none 0 0] 65)).alloc (.map #[] 0)) := by
  refine ⟨bal (bal (bal (Below.refl _ _))), (Bk.new _ _ _).alloc.alloc, (bal2' w1).alloc, ?_⟩
  have := SetM.made ((w1.alloc (.cells #[.int .u64 c.old, .int .i64 c.ht, .int .i64 c.b, .int .i64 c.r, .int .i64 c.n, .string ⟨c.t.toArray⟩, .slice c.kp c.kl c.kc] 76)).alloc (.cells #[.int .u64 0, .int .i64 0, .int .i64 0, .int .i64 0, .int .i64 0, .slice none 0 0, .slice none 0 0] 65))
  simp only [World.size_alloc] at this
  exact this
theorem ChS0.to {w1 : World} {c : TC} {W : World} (s : ChS0 w1 c W) (B : Nat) : ChS w1 c B [] W := ⟨s.1, s.2.1, ⟨none, 0, s.2.2.1, Ow.nil _ _ _ _⟩, s.2.2.2⟩

theorem not_mem_take {l : List Nat} (h : l.Nodup) {j : Nat} (hj : j < l.length) : l[j] ∉ l.take j := by
  intro q
  obtain ⟨i, hi, e⟩ := List.getElem_of_mem q
  rw [List.getElem_take] at e
  have hi2 : i < j := by rw [List.length_take] at hi; omega
  exact (List.pairwise_iff_getElem.1 h) i j (by omega) hj hi2 e

set_option maxHeartbeats 4000000 in
set_option maxRecDepth 100000 in
theorem change_any (A : AF) (G : Ar) (r : Rt) (T T' : List UInt8) (caps : Array Value) (br : Nat) (w : World) (hA : ArM w A G) (hr : RV G r T) (hbr : Bk w br #[.int .u64 r.at_, .int .i64 r.ht, .int .i64 r.b, .int .i64 r.r, .int .i64 r.n] 39)
    (cM : ∀ W, Below w.heap.size w W → Calls Tryz.prog 34 caps W fun e W' => ∃ c' I', e = .returned (.tuple #[c'.v, .int .i64 0]) ∧ (PE G FT W' c' I' ∧ I'.T = T' ∧ ∀ S, Closed G S → RIn S r → KIn S I') ∧ Below W.heap.size W W') (hT : T'.length ≤ 4096) (hn : G.length + (T'.length / 4 + 1) ≤ 999) :
    Calls Tryz.prog 33 #[.pointer (some ⟨A.ba, 0, none⟩), .func (.func 34) #[] caps, .slice (some ⟨br, 0, none⟩) 1 1] w fun e w' => ∃ (c' : TC) (I' : PI) (xs : List Nd) (r' : Rt) (Af : Option Addr) (cf : Nat) (Ad : Option Addr) (cd : Nat) (D : List Nat) (w1 : World), e = .returned (.tuple #[.agg #[.int .u64 r'.at_, .int .i64 r'.ht, .int .i64 r'.b, .int .i64 r'.r, .int .i64 r'.n, .slice Af xs.length cf, .slice Ad D.length cd], .int .i64 0]) ∧ ArM w' A (G ++ xs) ∧ FrT (arT A) w w' ∧ Ow hndE w' w.heap.size 35 (.slice Af xs.length cf) (frL G.length xs.length) ∧ Ow hndE w' w.heap.size 35 (.slice Ad D.length cd) (D.map hd) ∧ WrV G xs r' I' ∧ I'.T = T' ∧ D.Nodup ∧ (∀ x, x ∈ D ↔ RtR G r x ∧ ¬ KpR G I'.K x) ∧ PE G FT w1 c' I' ∧ ∀ S, Closed G S → RIn S r → KIn S I' := by
  have cD := fun c' I' W (p : Below w.heap.size w W) (q : PE G FT W c' I') (t : I'.T = T') => dropped_any A G r T c' I' W (hA.ext p) hr q (by rw [t]; omega)
  have cW := fun c' I' W (p : Below w.heap.size w W) (q : PE G FT W c' I') (t : I'.T = T') => write_any A G c' I' W (hA.ext p) q (by rw [t]; omega) (by have := q.news hA.ok; rw [t] at this; omega)
  have HLE := Lib.hid hA.le
  have HIN := Lib.hid (fun (D : List Nat) (hD : ∀ x ∈ D, RtR G r x) x (hx : x ∈ D) => (show x < G.length by
    obtain ⟨k, e, q⟩ := hD x hx
    rcases hr with ⟨rfl, -⟩ | ⟨k', y, hy, rfl, -⟩
    · have e2 : (0 : Nat) = hd k := e
      unfold hd at e2; omega
    · have : k = k' := by have e2 : hd k' = hd k := e; unfold hd at e2; omega
      have := (List.getElem?_eq_some_iff.1 hy).1
      have := q.le hA.ok
      omega))
  have HAL := Lib.hid (fun k (hk : arT A k) => hA.lt hk)
  have CM := cM
  unfold Rt.v TC.v at *
  obtain ⟨ro, rh, rb, rr, rn⟩ := r
  have CM' := Lib.hid CM; have CD := Lib.hid cD; have CW := Lib.hid cW
  have HBR := Lib.hid hbr
  have hmm := mkMap
  clear CM cM cD cW hA hr hbr hT hn
  go_enter Tryz.func33, Tryz.ntmps33
  go_wp2_with fail
  have hb0 : Below w.heap.size w (w.alloc (.cells #[.int .u64 0, .int .i64 0, .int .i64 0, .int .i64 0, .int .i64 0, .slice none 0 0, .slice none 0 0] 65)) := bal (Below.refl _ _)
  have hz0 : (w.alloc (.cells #[.int .u64 0, .int .i64 0, .int .i64 0, .int .i64 0, .int .i64 0, .slice none 0 0, .slice none 0 0] 65)).heap.size = w.heap.size + 1 := by simp
  have hk0 := Bk.new w #[.int .u64 0, .int .i64 0, .int .i64 0, .int .i64 0, .int .i64 0, .slice none 0 0, .slice none 0 0] 65
  refine (CM'.out _ hb0).mono ?_
  generalize w.alloc (.cells #[.int .u64 0, .int .i64 0, .int .i64 0, .int .i64 0, .int .i64 0, .slice none 0 0, .slice none 0 0] 65) = W0 at *
  rintro e w1 ⟨c, I, rfl, ⟨hq, ht, hkin⟩, hb1⟩
  have HB1 := Lib.hid (bcall hb0 hb1); have HK1 := Lib.hid (hk0.ext hb1 hk0.lt); have HQ := Lib.hid hq; have HT := Lib.hid ht; have HKIN := Lib.hid hkin
  have hbr1 := HBR.out.ext HB1.out HBR.out.lt
  have HBR1 := Lib.hid hbr1
  have hz1 := Lib.hid (show w.heap.size + 1 ≤ w1.heap.size by have := hb1.size; omega)
  clear hb0 hz0 hk0 hq ht hkin hb1 hbr1 CM' HBR
  go_wp2_with fail
  go_loopw [31] (fun i wr => (i = .int .i64 0 ∧ Hid (ChS0 w1 c wr)) ∨ (i = .int .i64 1 ∧ ∃ (D : List Nat), Hid (ChS w1 c w1.heap.size D wr) ∧ Hid (D.Nodup) ∧ Hid (∀ x, x ∈ D ↔ RtR G ⟨ro, rh, rb, rr, rn⟩ x ∧ ¬ KpR G I.K x))) (fun i _ => 1 - (intOf i).toNat)
  case atStart => exact .inl ⟨rfl, Lib.hid (ChS0.start w1 c)⟩
  case round =>
    rcases hrel with ⟨rfl, HS⟩ | ⟨rfl, D, HS, HND, HD⟩
    · obtain ⟨b0, b1, b2, b3, b4, -⟩ := (HBR1.out.ext HS.out.1 HBR1.out.lt).five
      have hlb := (HBR1.out.ext HS.out.1 HBR1.out.lt).lt
      obtain ⟨x0, x1, x2, x3, x4, x5, x6, -⟩ := HS.out.2.1.seven
      have hlx := HS.out.2.1.lt
      go_wp2_with fail
      refine (CD.out c I _ (bcallN HB1.out (bal HS.out.1) (by have := hz1.out; omega)) (HQ.out.ext (bal HS.out.1)) HT.out).mono ?_
      rintro e w2 ⟨Ax, cx, D, rfl, hox, hnd, hD, hb2⟩
      have hS2 := HS.out.ext (bcall (bal (Below.refl _ _)) hb2)
      have HS2 := Lib.hid hS2; have HOX := Lib.hid hox; have HND := Lib.hid hnd; have HD := Lib.hid hD
      have hdl := nodup_le hnd (HIN.out D (fun x hx => ((hD x).1 hx).1))
      have hdl2 : (D.length : Int) ≤ 1000 := by have := HLE.out; omega
      have HDG := Lib.hid (HIN.out D (fun x hx => ((hD x).1 hx).1))
      have HBX := Lib.hid (show w1.heap.size ≤ w2.heap.size from hS2.1.size)
      clear hS2 hox hnd hD hb2 HS x0 x1 x2 x3 x4 x5 x6 hlx b0 b1 b2 b3 b4 hlb CD
      go_wp2_with fail
      go_loopw [48] (fun i W => ∃ j : Nat, j ≤ D.length ∧ i = .int .i64 j ∧ Hid (ChS w1 c w2.heap.size (D.take j) W) ∧ Hid (Ow hndE W 0 35 (.slice Ax D.length cx) (D.map hd)) ∧ Hid (w2.heap.size ≤ W.heap.size)) (fun i _ => D.length - (intOf i).toNat)
      case atStart => exact ⟨0, by omega, rfl, Lib.hid (HS2.out.to _), Lib.hid (HOX.out.base (Nat.zero_le _)), Lib.hid (Nat.le_refl _)⟩
      case round =>
        obtain ⟨j, hj, rfl, HC, HO, HZ⟩ := hrel
        by_cases hlt : j < D.length
        · have hOr := HO.out
          obtain ⟨b', off', cap', hv, hbl, hcc⟩ := hOr.sl.hnd (k := j) (by simpa using hlt)
          rw [List.length_map] at hv
          obtain ⟨rfl, rfl⟩ : Ax = some ⟨b', off', none⟩ ∧ cx = cap' := by injection hv with e1 e2 e3; exact ⟨e1, e3⟩
          have q0 := hcc wr (Below.refl _ _)
          rw [List.getElem_map] at q0
          have hk9 : D[j] < G.length := HDG.out _ (List.getElem_mem hlt)
          have hle := HLE.out
          have hni : D[j] ∉ D.take j := not_mem_take HND.out hlt
          have hlen : (D.take j).length = j := by rw [List.length_take]; omega
          have htk : D.take (j + 1) = D.take j ++ [D[j]] := by rw [List.take_add_one, List.getElem?_eq_getElem hlt]; rfl
          have HTK := Lib.hid htk
          have hji : (j : Int) < (D.length : Int) := by omega
          have HOXL := Lib.hid (fun g hg => (HOX.out.lt g hg).2)
          clear hcc hv htk hOr
          generalize D[j] = k at *
          generalize hL : D.take j = L at *
          clear hL
          subst hlen
          have hlk := HC.out.set.look (k := k) (by omega)
          rw [decide_eq_false hni] at hlk
          obtain ⟨w3, hst, hm3, hg3, hs3⟩ := HC.out.set.store (by omega) (k := k) (by omega) hni
          obtain ⟨Ad, cd, hc1, hc2⟩ := HC.out.chg
          have hC3 : Bk w3 (w1.heap.size + 1) #[.int .u64 0, .int .i64 0, .int .i64 0, .int .i64 0, .int .i64 0, .slice none 0 0, .slice Ad L.length cd] 65 := hc1.grown hg3 (fun e => HC.out.set.ne_bk hc1 (Option.some.inj e))
          have hT3 := HC.out.tree.grown hg3 (fun e => HC.out.set.ne_bk HC.out.tree (Option.some.inj e))
          obtain ⟨y0, y1, y2, y3, y4, y5, y6, f0, f1, f2, f3, f4, f5, f6⟩ := hC3.seven
          have hl3 := hC3.lt
          have hR3 : Ow hndE w3 w2.heap.size 35 (.slice Ad L.length cd) (L.map hd) := hc2.kept fun g hg => hg3.block g (hc2.lt g hg).2 (fun e => hc2.ne_map HC.out.set g hg (Option.some.inj e))
          have hO3 : Ow hndE w3 0 35 (.slice (some ⟨b', off', none⟩) D.length cx) (D.map hd) := HO.out.kept fun g hg => hg3.block g (HO.out.lt g hg).2 (fun e => HO.out.ne_map HC.out.set g hg (Option.some.inj e))
          have HB3 := Lib.hid (HC.out.below.grown hg3 HC.out.below.size (fun q hq => by obtain rfl := Option.some.inj hq; omega))
          have HC3 := Lib.hid hC3; have HT3 := Lib.hid hT3; have HR3 := Lib.hid hR3; have HO3 := Lib.hid hO3; have HM3 := Lib.hid hm3; have HS3 := Lib.hid hs3
          have hz := HZ.out
          clear hc1 hc2 hC3 hT3 hR3 hO3 hm3 HC HO hg3 hs3
          go_wp2_with (at_builtin; refine Hid.out ?_)
          refine Lib.hid ?_
          refine wpOw1 _ hndOK rfl (.tmp 59) (.tmp 61) rfl w2.heap.size (by have := HS3.out; simp; omega) (.slice Ad L.length cd) (L.map hd) (by simp [go_sem, List.length_map]) (HR3.out.alloc _) (hd k) w3.heap.size 1 rfl (new_cells _ _ _) (by rw [List.length_map]; omega) ?_
          rw [List.length_map]
          intro A8 c8 w8 hown8 hg8
          have hOa := HR3.out.alloc (.cells #[.int .u64 (hd k : Nat)] 35)
          have hg9 : (w3.alloc (.cells #[.int .u64 (hd k : Nat)] 35)).grownBy w8 (Value.slice Ad L.length cd).ownBlock := hg8
          have hz3 : (w3.alloc (.cells #[.int .u64 (hd k : Nat)] 35)).heap.size = w3.heap.size + 1 := by simp
          have hz8 := hg9.size
          have hs3' := HS3.out
          have hbx := HBX.out
          have mv : ∀ (b : Nat) (cs : Array Value) (t : TypeId), Bk w3 b cs t → 35 ≠ t → Bk w8 b cs t := fun b cs t hb hne => hb.alloc.grown hg9 (fun e => (hOa.ne_bk hb.alloc hne) b e.symm rfl)
          have hM8 : SetM w8 (w1.heap.size + 1 + 1) (L ++ [k]) := (HM3.out.alloc _).grown hg9 (fun e => hOa.ne_map (HM3.out.alloc _) _ e.symm rfl)
          have hC8 := mv _ _ _ HC3.out (by decide)
          obtain ⟨z0, z1, z2, z3, z4, z5, z6, h0, h1, h2, h3, h4, h5, h6⟩ := hC8.seven
          have hl8 := hC8.lt
          have hT8 := mv _ _ _ HT3.out (by decide)
          have hB8 := (HB3.out.alloc HB3.out.size (.cells #[.int .u64 (hd k : Nat)] 35)).grown hg9 (by have := HB3.out.size; omega) (fun q hq => by have := (HR3.out.lt q hq).1; omega)
          have hO8 : Ow hndE w8 0 35 (.slice (some ⟨b', off', none⟩) D.length cx) (D.map hd) := HO3.out.kept fun g hg => (hg9.block g (by have := (HO3.out.lt g hg).2; omega) (fun e => by have := (HR3.out.lt g e.symm).1; have := HOXL.out g hg; omega)).trans (Below.heap_alloc _ _ _ (HO3.out.lt g hg).2)
          have HF := Lib.hid (show ChS w1 c w2.heap.size (L ++ [k]) (w8.setCell ⟨w1.heap.size + 1, 6, none⟩ (.slice A8 (L.length + 1) c8)) from
            ⟨bset hB8 (by simp), hT8.other (bk_ne hT8 hC8 (by decide)), ⟨A8, c8, by rw [List.length_append]; exact hC8.set 6 _, by
              rw [List.length_append, List.map_append]
              exact hown8.kept fun g hg => Below.heap_setCell _ _ _ _ (hown8.ne_bk hC8 (by decide) g hg)⟩, hM8.keep (Below.heap_setCell _ _ _ _ (fun e => SetM.ne_bk hM8 hC8 e.symm))⟩)
          have HO9 := Lib.hid (show Ow hndE (w8.setCell ⟨w1.heap.size + 1, 6, none⟩ (.slice A8 (L.length + 1) c8)) 0 35 (.slice (some ⟨b', off', none⟩) D.length cx) (D.map hd) from hO8.kept fun g hg => Below.heap_setCell _ _ _ _ (hO8.ne_bk hC8 (by decide) g hg))
          have HZ9 := Lib.hid (show w2.heap.size ≤ (w8.setCell ⟨w1.heap.size + 1, 6, none⟩ (.slice A8 (L.length + 1) c8)).heap.size by rw [World.size_setCell]; omega)
          clear hg8 hg9 hown8 mv hM8 hC8 hT8 hB8 hO8 hOa hz3 hz8
          go_wp2_with fail
          go_roundw
          case rel => exact ⟨L.length + 1, by omega, by go_num, Lib.hid (by rw [HTK.out]; exact HF.out), HO9, HZ9⟩
          case measure => simp [intOf]; omega
        · obtain rfl : j = D.length := by omega
          have hC := HC.out
          rw [List.take_length] at hC
          have HC9 := Lib.hid (hC.base HBX.out)
          clear hC HC HO
          go_wp2_with fail
          go_roundw
          case rel => exact .inr ⟨rfl, D, HC9, HND, HD⟩
          case measure => simp [intOf]
    · obtain ⟨x0, x1, x2, x3, x4, x5, x6, -⟩ := HS.out.tree.seven
      have hlx := HS.out.tree.lt
      go_wp2_with fail
      refine (CW.out c I _ (bcallN HB1.out HS.out.below (by have := hz1.out; omega)) (HQ.out.ext HS.out.below) HT.out).mono ?_
      rintro e w5 ⟨xs, r', Af, cf, rfl, hA5, hF5, hO5, hW5⟩
      obtain ⟨v0, v1, v2, v3, v4⟩ := r'
      have hz := hz1.out
      have hbl := HS.out.below.size
      have hna : ∀ b, w.heap.size ≤ b → ¬ arT A b := fun b hb q => by have := HAL.out b q; omega
      obtain ⟨Ad, cd, hc1, hc2⟩ := HS.out.chg
      have hC5 : Bk w5 (w1.heap.size + 1) #[.int .u64 0, .int .i64 0, .int .i64 0, .int .i64 0, .int .i64 0, .slice none 0 0, .slice Ad D.length cd] 65 := (hF5.block _ hc1.lt (hna _ (by omega))).trans hc1
      have hR5 : Ow hndE w5 w.heap.size 35 (.slice Ad D.length cd) (D.map hd) := (hc2.kept fun g hg => hF5.block g (hc2.lt g hg).2 (hna g (by have := (hc2.lt g hg).1; omega))).base (by omega)
      have hK5 : Bk w5 w.heap.size #[.int .u64 0, .int .i64 0, .int .i64 0, .int .i64 0, .int .i64 0, .slice none 0 0, .slice none 0 0] 65 := (hF5.block _ (by have := HK1.out.lt; omega) (hna _ (Nat.le_refl _))).trans (HK1.out.ext HS.out.below HK1.out.lt)
      have hO5' := hO5.base (show w.heap.size ≤ wr.heap.size by omega)
      have hF5' : FrT (arT A) w w5 := (FrT.of_below (bcallN HB1.out HS.out.below (by omega))).trans hF5
      have HA5 := Lib.hid hA5; have HW5 := Lib.hid hW5; have HC5 := Lib.hid hC5; have HR5 := Lib.hid hR5; have HK5 := Lib.hid hK5; have HO5 := Lib.hid hO5'; have HF5 := Lib.hid hF5'
      obtain ⟨y0, y1, y2, y3, y4, y5, y6, f0, f1, f2, f3, f4, f5, f6⟩ := hC5.seven
      have hl5 := hC5.lt
      clear hA5 hF5 hO5 hW5 hc1 hc2 hC5 hR5 hK5 hO5' hF5' x0 x1 x2 x3 x4 x5 x6 hlx CW
      go_upto_region 21 with (fail)
      have K9 : Bk ((((((w5.setCell ⟨w1.heap.size + 1, 0, none⟩ (.int .u64 v0)).setCell ⟨w1.heap.size + 1, 1, none⟩ (.int .i64 v1)).setCell ⟨w1.heap.size + 1, 2, none⟩ (.int .i64 v2)).setCell ⟨w1.heap.size + 1, 3, none⟩ (.int .i64 v3)).setCell ⟨w1.heap.size + 1, 4, none⟩ (.int .i64 v4)).setCell ⟨w1.heap.size + 1, 5, none⟩ (.slice Af xs.length cf)) (w1.heap.size + 1) #[.int .u64 v0, .int .i64 v1, .int .i64 v2, .int .i64 v3, .int .i64 v4, .slice Af xs.length cf, .slice Ad D.length cd] 65 := (((((HC5.out.set 0 _).set 1 _).set 2 _).set 3 _).set 4 _).set 5 _
      have E9 : ∀ b, b ≠ w1.heap.size + 1 → ((((((w5.setCell ⟨w1.heap.size + 1, 0, none⟩ (.int .u64 v0)).setCell ⟨w1.heap.size + 1, 1, none⟩ (.int .i64 v1)).setCell ⟨w1.heap.size + 1, 2, none⟩ (.int .i64 v2)).setCell ⟨w1.heap.size + 1, 3, none⟩ (.int .i64 v3)).setCell ⟨w1.heap.size + 1, 4, none⟩ (.int .i64 v4)).setCell ⟨w1.heap.size + 1, 5, none⟩ (.slice Af xs.length cf)).heap[b]? = w5.heap[b]? := fun b hb => by simp [Below.heap_setCell _ _ _ _ (show b ≠ (⟨w1.heap.size + 1, _, none⟩ : Addr).block from hb)]
      have F9 : FrT (arT A) w ((((((w5.setCell ⟨w1.heap.size + 1, 0, none⟩ (.int .u64 v0)).setCell ⟨w1.heap.size + 1, 1, none⟩ (.int .i64 v1)).setCell ⟨w1.heap.size + 1, 2, none⟩ (.int .i64 v2)).setCell ⟨w1.heap.size + 1, 3, none⟩ (.int .i64 v3)).setCell ⟨w1.heap.size + 1, 4, none⟩ (.int .i64 v4)).setCell ⟨w1.heap.size + 1, 5, none⟩ (.slice Af xs.length cf)) := (((((HF5.out.set (.inr (by simp; omega)) _).set (.inr (by simp; omega)) _).set (.inr (by simp; omega)) _).set (.inr (by simp; omega)) _).set (.inr (by simp; omega)) _).set (.inr (by simp; omega)) _
      have S9 : ((((((w5.setCell ⟨w1.heap.size + 1, 0, none⟩ (.int .u64 v0)).setCell ⟨w1.heap.size + 1, 1, none⟩ (.int .i64 v1)).setCell ⟨w1.heap.size + 1, 2, none⟩ (.int .i64 v2)).setCell ⟨w1.heap.size + 1, 3, none⟩ (.int .i64 v3)).setCell ⟨w1.heap.size + 1, 4, none⟩ (.int .i64 v4)).setCell ⟨w1.heap.size + 1, 5, none⟩ (.slice Af xs.length cf)).heap.size = w5.heap.size := by simp
      generalize ((((((w5.setCell ⟨w1.heap.size + 1, 0, none⟩ (.int .u64 v0)).setCell ⟨w1.heap.size + 1, 1, none⟩ (.int .i64 v1)).setCell ⟨w1.heap.size + 1, 2, none⟩ (.int .i64 v2)).setCell ⟨w1.heap.size + 1, 3, none⟩ (.int .i64 v3)).setCell ⟨w1.heap.size + 1, 4, none⟩ (.int .i64 v4)).setCell ⟨w1.heap.size + 1, 5, none⟩ (.slice Af xs.length cf)) = W9 at *
      have HE9 := Lib.hid E9; have HF9 := Lib.hid F9; have HK9 := Lib.hid K9; have HS9 := Lib.hid S9
      clear y0 y1 y2 y3 y4 y5 y6 f0 f1 f2 f3 f4 f5 f6 hl5 E9 F9 S9
      obtain ⟨y0, y1, y2, y3, y4, y5, y6, f0, f1, f2, f3, f4, f5, f6⟩ := K9.seven
      have hl9 := K9.lt
      have hR9 : Bk W9 w.heap.size #[.int .u64 0, .int .i64 0, .int .i64 0, .int .i64 0, .int .i64 0, .slice none 0 0, .slice none 0 0] 65 := (HE9.out _ (by omega)).trans HK5.out
      obtain ⟨z0, z1, z2, z3, z4, z5, z6, h0, h1, h2, h3, h4, h5, h6⟩ := hR9.seven
      have hl0 := hR9.lt
      have HR9 := Lib.hid hR9
      clear K9 hR9
      go_wp2_with fail
      have K10 : Bk (((((((W9.setCell ⟨w.heap.size, 0, none⟩ (.int .u64 v0)).setCell ⟨w.heap.size, 1, none⟩ (.int .i64 v1)).setCell ⟨w.heap.size, 2, none⟩ (.int .i64 v2)).setCell ⟨w.heap.size, 3, none⟩ (.int .i64 v3)).setCell ⟨w.heap.size, 4, none⟩ (.int .i64 v4)).setCell ⟨w.heap.size, 5, none⟩ (.slice Af xs.length cf)).setCell ⟨w.heap.size, 6, none⟩ (.slice Ad D.length cd)) w.heap.size #[.int .u64 v0, .int .i64 v1, .int .i64 v2, .int .i64 v3, .int .i64 v4, .slice Af xs.length cf, .slice Ad D.length cd] 65 := ((((((HR9.out.set 0 _).set 1 _).set 2 _).set 3 _).set 4 _).set 5 _).set 6 _
      have E10 : ∀ b, b ≠ w1.heap.size + 1 → b ≠ w.heap.size → (((((((W9.setCell ⟨w.heap.size, 0, none⟩ (.int .u64 v0)).setCell ⟨w.heap.size, 1, none⟩ (.int .i64 v1)).setCell ⟨w.heap.size, 2, none⟩ (.int .i64 v2)).setCell ⟨w.heap.size, 3, none⟩ (.int .i64 v3)).setCell ⟨w.heap.size, 4, none⟩ (.int .i64 v4)).setCell ⟨w.heap.size, 5, none⟩ (.slice Af xs.length cf)).setCell ⟨w.heap.size, 6, none⟩ (.slice Ad D.length cd)).heap[b]? = w5.heap[b]? := fun b hb hb2 => by
        have := HE9.out b hb
        simp [Below.heap_setCell _ _ _ _ (show b ≠ (⟨w.heap.size, _, none⟩ : Addr).block from hb2), this]
      have F10 : FrT (arT A) w (((((((W9.setCell ⟨w.heap.size, 0, none⟩ (.int .u64 v0)).setCell ⟨w.heap.size, 1, none⟩ (.int .i64 v1)).setCell ⟨w.heap.size, 2, none⟩ (.int .i64 v2)).setCell ⟨w.heap.size, 3, none⟩ (.int .i64 v3)).setCell ⟨w.heap.size, 4, none⟩ (.int .i64 v4)).setCell ⟨w.heap.size, 5, none⟩ (.slice Af xs.length cf)).setCell ⟨w.heap.size, 6, none⟩ (.slice Ad D.length cd)) := ((((((HF9.out.set (.inr (by simp)) _).set (.inr (by simp)) _).set (.inr (by simp)) _).set (.inr (by simp)) _).set (.inr (by simp)) _).set (.inr (by simp)) _).set (.inr (by simp)) _
      have S10 : (((((((W9.setCell ⟨w.heap.size, 0, none⟩ (.int .u64 v0)).setCell ⟨w.heap.size, 1, none⟩ (.int .i64 v1)).setCell ⟨w.heap.size, 2, none⟩ (.int .i64 v2)).setCell ⟨w.heap.size, 3, none⟩ (.int .i64 v3)).setCell ⟨w.heap.size, 4, none⟩ (.int .i64 v4)).setCell ⟨w.heap.size, 5, none⟩ (.slice Af xs.length cf)).setCell ⟨w.heap.size, 6, none⟩ (.slice Ad D.length cd)).heap.size = w5.heap.size := by simp [HS9.out]
      generalize (((((((W9.setCell ⟨w.heap.size, 0, none⟩ (.int .u64 v0)).setCell ⟨w.heap.size, 1, none⟩ (.int .i64 v1)).setCell ⟨w.heap.size, 2, none⟩ (.int .i64 v2)).setCell ⟨w.heap.size, 3, none⟩ (.int .i64 v3)).setCell ⟨w.heap.size, 4, none⟩ (.int .i64 v4)).setCell ⟨w.heap.size, 5, none⟩ (.slice Af xs.length cf)).setCell ⟨w.heap.size, 6, none⟩ (.slice Ad D.length cd)) = W10 at *
      obtain ⟨j0, j1, j2, j3, j4, j5, j6, -⟩ := K10.seven
      refine bodyPost_ret (v := .tuple #[.agg #[.int .u64 v0, .int .i64 v1, .int .i64 v2, .int .i64 v3, .int .i64 v4, .slice Af xs.length cf, .slice Ad D.length cd], .int .i64 0]) (by simp [results, Tryz.results33, go_sem, j0, j1, j2, j3, j4, j5, j6]) rfl ⟨c, I, xs, ⟨v0, v1, v2, v3, v4⟩, Af, cf, Ad, cd, D, w1, rfl, ?_, F10, ?_, ?_, HW5.out, HT.out, HND.out, HD.out, HQ.out, HKIN.out⟩
      · refine HA5.out.setRt (fun k hk => E10 k (by have := HAL.out k hk; omega) (by have := HAL.out k hk; omega)) (by omega) (fun b cs hq => (E10 b (fun e => ?_) (fun e => ?_)).trans hq)
        · exact bk_ne hq HC5.out (by decide) e
        · exact bk_ne hq HK5.out (by decide) e
      · exact HO5.out.kept fun g hg => E10 g (HO5.out.ne_bk HC5.out (by decide) g hg) (HO5.out.ne_bk HK5.out (by decide) g hg)
      · exact HR5.out.kept fun g hg => E10 g (HR5.out.ne_bk HC5.out (by decide) g hg) (HR5.out.ne_bk HK5.out (by decide) g hg)

end Go.Proofs.YtclmjnobacepjaaGreat
