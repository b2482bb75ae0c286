/- quartotop.versions. -/
import Derived.Test.YtclmjnobacepjaaGreatTVer1
import Derived.BigQuiet
import Derived.Deep.Light
import Derived.Deep.RegionHeld3
import Derived.Deep.QuietTactic
namespace Go.Proofs.YtclmjnobacepjaaGreat
open Go.RowKit

theorem fewB_parts {s : List UInt8} {l : List Ed} (h : fewB s l = true) : s.length ≤ 80 ∧ l.length ≤ 10 ∧ ∀ e ∈ l, e.t.length ≤ 40 := of_decide_eq_true h

theorem hidFrT_alloc {T : Nat → Prop} {a b : World} (h : Hid (FrT T a b)) (o : Obj) : Hid (FrT T a (b.alloc o)) := Lib.hid h.out.alloc

set_option maxHeartbeats 8000000 in
set_option maxRecDepth 100000 in
theorem versions_any (A : AF) (s : List UInt8) (l : List Ed) (Al : Option Addr) (cl : Nat) (w : World) (hA : ArM w A []) (hE : ∀ W, FrT (arT A) w W → Sl edE W (.slice Al l.length cl) l) (hf : fewB s l = true) :
    Calls Tryz.prog 6 #[.pointer (some ⟨A.ba, 0, none⟩), .string ⟨s.toArray⟩, .slice Al l.length cl] w fun e w' => ∃ (G : Ar) (vs : List Vr) (Av : Option Addr) (cv : Nat), e = .returned (.tuple #[.slice Av vs.length cv, .bool true]) ∧ ArM w' A G ∧ Ow vrE w' w.heap.size 41 (.slice Av vs.length cv) vs ∧ FrT (arT A) w w' ∧ VP G vs l.length := by
  obtain ⟨hs, hl, ht⟩ := fewB_parts hf
  have cN := rnew_any A [] s w hA (by omega) (by show 0 + _ ≤ 999; omega)
  have HAL := Lib.hid (fun k (hk : arT A k) => hA.lt hk)
  have HE := Lib.hid hE
  have HT := Lib.hid ht
  have hli : (l.length : Int) ≤ 10 := by omega
  unfold Rt.v at cN
  have CN := Lib.hid cN
  have hfd : ∀ (a b c d e f g : Value) (W : World), (Instr.field 51 (.agg #[a, b, c, d, e, f, g]) 2).run Tryz.prog W = .ok c W := fun _ _ _ _ _ _ _ _ => by kernel_rfl
  clear cN hA hE hf ht
  go_enter Tryz.func6, Tryz.ntmps6
  go_wp2_with fail
  refine CN.out.mono ?_
  rintro e w1 ⟨xs, ⟨v0, v1, v2, v3, v4⟩, I, rfl, hA1, hF1, hW, hT, hK, hx⟩
  have HP := Lib.hid (VP.start hA1.ok hW hT hK hs hx)
  have HA1 := Lib.hid hA1; have HF1 := Lib.hid hF1
  have hz1 := hF1.size
  clear CN hA1 hF1 hW hT hK hx
  have HB := Lib.hid (bal (bal (Below.refl w1.heap.size w1) (o := .cells #[.int .u64 v0, .int .i64 v1, .int .i64 v2, .int .i64 v3, .int .i64 v4] 39)) (o := .cells #[.int .u64 v0, .int .i64 v1, .int .i64 v2, .int .i64 v3, .int .i64 v4, .string ⟨s.toArray⟩] 41))
  have HO := Lib.hid (Bk.ow (E := vrE) (l := [⟨⟨v0, v1, v2, v3, v4⟩, s⟩]) (cap := 1) (B := w.heap.size) (bal2' w1 (o := .cells #[.int .u64 v0, .int .i64 v1, .int .i64 v2, .int .i64 v3, .int .i64 v4] 39) (cs := #[.int .u64 v0, .int .i64 v1, .int .i64 v2, .int .i64 v3, .int .i64 v4, .string ⟨s.toArray⟩]) (t := 41)) (by omega) (Nat.le_refl _) (by omega) rfl rfl)
  go_wp2_with fail
  go_loopw [10, 11] (fun o i W => ∃ (j : Nat) (G : Ar) (vs : List Vr) (Av : Option Addr) (cv : Nat), j ≤ l.length ∧ i = .int .i64 j ∧ o = .slice Av vs.length cv ∧ Hid (VP G vs j) ∧ Hid (ArM W A G) ∧ Hid (Ow vrE W w.heap.size 41 (.slice Av vs.length cv) vs) ∧ Hid (FrT (arT A) w W)) (fun _ i _ => l.length - (intOf i).toNat)
  case atStart => exact ⟨0, _, [⟨⟨v0, v1, v2, v3, v4⟩, s⟩], _, _, by omega, rfl, rfl, HP, Lib.hid (HA1.out.ext HB.out), HO, Lib.hid (HF1.out.below HB.out)⟩
  clear HP HA1 HF1 HB HO
  case round =>
    obtain ⟨j, G, vs, Av, cv, hj, rfl, rfl, HP, HA, HO, HF⟩ := hrel
    by_cases hlt : j < l.length
    · have hlen := Lib.hid HP.out.len
      have hvl : (vs.length : Int) ≤ 11 := by have := hlen.out; omega
      obtain ⟨be, oe, cap', hv, hbl, hcc⟩ := (HE.out wr HF.out).ed hlt
      obtain ⟨rfl, rfl⟩ : Al = some ⟨be, oe, none⟩ ∧ cl = cap' := by injection hv with e1 e2 e3; exact ⟨e1, e3⟩
      obtain ⟨e0, e1, e2, e3⟩ := hcc wr (Below.refl _ _)
      have HEC := Lib.hid (fun W (p : FrT (arT A) w W) => (by
        obtain ⟨b9, o9, c9, hv9, hb9, hcc9⟩ := (HE.out W p).ed hlt
        obtain ⟨rfl, rfl⟩ : be = b9 ∧ oe = o9 := by injection hv9 with e1 e2 e3; injection e1 with e1; injection e1 with e1 e2; exact ⟨e1, e2⟩
        obtain ⟨-, -, -, q⟩ := hcc9 W (Below.refl _ _)
        exact ⟨q, hb9⟩ : W.cell? ⟨be, oe + j * 4 + 3, none⟩ = some (.string ⟨(l[j].t).toArray⟩) ∧ be < W.heap.size))
      have HBE := Lib.hid (show be < w.heap.size from by
        obtain ⟨b9, o9, c9, hv9, hb9, -⟩ := (HE.out w (FrT.refl _ _)).ed hlt
        injection hv9 with e1 e2 e3; injection e1 with e1; injection e1 with e1 e2
        rw [e1]; exact hb9)
      have het := HT.out _ (List.getElem_mem hlt)
      have hji : (j : Int) < (l.length : Int) := by omega
      clear hv
      generalize l[j] = ed at *
      obtain ⟨eof, eat, en, et⟩ := ed
      simp only at e0 e1 e2 e3 HEC het hcc
      obtain ⟨d, hd1, hd2⟩ : ∃ d : Nat, eof % (vs.length : Int) = d ∧ d < vs.length := by
        have h0 : (vs.length : Int) ≠ 0 := by have := hlen.out; omega
        have h1 := Int.emod_nonneg eof h0
        have h2 := Int.emod_lt_of_pos eof (show (0 : Int) < vs.length by omega)
        exact ⟨(eof % (vs.length : Int)).toNat, by omega, by omega⟩
      have cw1 := within_any eof vs.length (by have := hlen.out; omega) (by have := hlen.out; omega)
      rw [hd1] at cw1
      obtain ⟨bo, oo, capo, hvo, hblo, hcco⟩ := HO.out.sl.vr hd2
      obtain ⟨rfl, rfl⟩ : Av = some ⟨bo, oo, none⟩ ∧ cv = capo := by injection hvo with e1 e2 e3; exact ⟨e1, e3⟩
      obtain ⟨o0, o1, o2, o3, o4, o5⟩ := hcco wr (Below.refl _ _)
      have HMEM := Lib.hid (List.getElem_mem hd2)
      clear hcco hvo
      generalize vs[d] = v at *
      obtain ⟨⟨ro, rh, rb, rr, rn⟩, T⟩ := v
      simp only at o0 o1 o2 o3 o4 o5
      have hTl := (HP.out.rv _ HMEM.out).2
      simp only at hTl
      have hTi : (T.length : Int) ≤ 480 := by omega
      obtain ⟨a, ha1, ha2⟩ : ∃ a : Nat, eat % ((T.length + 1 : Nat) : Int) = a ∧ a ≤ T.length := by
        have h0 : ((T.length + 1 : Nat) : Int) ≠ 0 := by omega
        have h1 := Int.emod_nonneg eat h0
        have h2 := Int.emod_lt_of_pos eat (show (0 : Int) < ((T.length + 1 : Nat) : Int) by omega)
        exact ⟨(eat % ((T.length + 1 : Nat) : Int)).toNat, by omega, by omega⟩
      have cw2 := within_any eat (T.length + 1) (by omega) (by omega)
      rw [ha1, show ((T.length + 1 : Nat) : Int) = (T.length : Int) + 1 by omega] at cw2
      obtain ⟨m, hm1, hm2⟩ : ∃ m : Nat, en % ((T.length - a + 1 : Nat) : Int) = m ∧ m ≤ T.length - a := by
        have h0 : ((T.length - a + 1 : Nat) : Int) ≠ 0 := by omega
        have h1 := Int.emod_nonneg en h0
        have h2 := Int.emod_lt_of_pos en (show (0 : Int) < ((T.length - a + 1 : Nat) : Int) by omega)
        exact ⟨(en % ((T.length - a + 1 : Nat) : Int)).toNat, by omega, by omega⟩
      have cw3 := within_any en (T.length - a + 1) (by omega) (by omega)
      rw [hm1, show ((T.length - a + 1 : Nat) : Int) = (T.length : Int) - (a : Int) + 1 by omega] at cw3
      have CW1 := Lib.hid cw1; have CW2 := Lib.hid cw2; have CW3 := Lib.hid cw3
      have hdi : (d : Int) < (vs.length : Int) := by omega
      have hai : (a : Int) ≤ (T.length : Int) := by omega
      have HD := Lib.hid hd2; have HA2 := Lib.hid ha2; have HM2 := Lib.hid hm2
      clear cw1 cw2 cw3 hd1 ha1 hm1 hd2 ha2 hm2
      have v8 := IntWalk.i64_in ((T.length : Int) - (a : Int)) ⟨by omega, by omega⟩
      have v9 := IntWalk.i64_in ((T.length : Int) - (a : Int) + 1) ⟨by omega, by omega⟩
      have bx1 := Bk.new wr #[.int .u64 ro, .int .i64 rh, .int .i64 rb, .int .i64 rr, .int .i64 rn, .string ⟨T.toArray⟩] 41
      have BW1 := Lib.hid (bal (Below.refl wr.heap.size wr) (o := .cells #[.int .u64 ro, .int .i64 rh, .int .i64 rb, .int .i64 rr, .int .i64 rn, .string ⟨T.toArray⟩] 41))
      have BX1 := Lib.hid bx1
      clear bx1
      go_wp2_with (first | (refine (CW1.out _).mono ?_; rintro e w' ⟨rfl, rfl⟩) | fail)
      obtain ⟨-, e1, e2, -⟩ := hcc _ BW1.out
      obtain ⟨-, -, -, -, -, x5, -⟩ := BX1.out.six
      have hbx := BX1.out.lt
      have hbe := Nat.lt_of_lt_of_le hbl BW1.out.size
      clear e0 o0 o1 o2 o3 o4 o5
      generalize w'.alloc (.cells #[.int .u64 ro, .int .i64 rh, .int .i64 rb, .int .i64 rr, .int .i64 rn, .string ⟨T.toArray⟩] 41) = W1 at *
      go_quiet (first | (go_at_call 17; exact Calls.quiet_of_same (CW2.out _)))
      go_upto_region 10 with (fail)
      have BW2 := Lib.hid (bdrN (n := nq) BW1.out)
      have BX2 := Lib.hid (BX1.out.drewN nq)
      have e2' : (W1.drewN nq).cell? ⟨be, oe + j * 4 + 2, none⟩ = _ := e2
      have x5' : (W1.drewN nq).cell? ⟨w'.heap.size, 5, none⟩ = _ := x5
      have hbx' : w'.heap.size < (W1.drewN nq).heap.size := hbx
      have hbe' : be < (W1.drewN nq).heap.size := hbe
      clear e1 e2 x5 hbx hbe BW1 BX1 CW2 CW1
      generalize W1.drewN nq = W2 at *
      go_quiet (first | (go_at_call 17; exact Calls.quiet_of_same (CW3.out _)))
      go_upto_region 11 with (fail)
      have BW3 := Lib.hid (bdrN (n := nq) BW2.out)
      have BX3 := Lib.hid (BX2.out.drewN nq)
      clear e2' x5' hbx' hbe' BW2 BX2 CW3 e1 e2 e3 v8 v9
      generalize W2.drewN nq = W3 at *
      have hG9 : G.length ≤ 781 := Nat.le_trans HP.out.sz (bnd_le (by omega))
      have CS3 := Lib.hid ((HA.out.ext BW3.out).stats (by omega))
      go_wp2_with fail
      refine CS3.out.mono ?_
      rintro e W4 ⟨wd, rfl, hb4⟩
      have BW4 := Lib.hid (bcall BW3.out hb4)
      have BX4 := Lib.hid (BX3.out.ext hb4 BX3.out.lt)
      clear hb4 BW3 BX3 CS3
      go_upto_region 12 with (fail)
      have AR4 := Lib.hid (HA.out.ext BW4.out)
      have FR4 := Lib.hid (HF.out.below BW4.out)
      have OV4 := Lib.hid (HO.out.ext BW4.out (Nat.le_refl _))
      obtain ⟨-, -, -, e3⟩ := hcc _ BW4.out
      obtain ⟨x0, x1, x2, x3, x4, x5, -⟩ := BX4.out.six
      have hbx := BX4.out.lt
      have hbe := Nat.lt_of_lt_of_le hbl BW4.out.size
      have hbw := HF.out.size
      have hbw4 := FR4.out.size
      have HGOK := Lib.hid HA.out.ok
      have HBO := Lib.hid hblo
      clear HA HF HO hcc BW4 hbl hblo
      have cR := fun W (p : Below W4.heap.size W4 W) => repl_any A G ⟨ro, rh, rb, rr, rn⟩ T a m et W (AR4.out.ext p) (HP.out.rv _ HMEM.out).1 (by omega) (by omega) HA2.out (by have := HM2.out; have := HA2.out; omega) (by
        have h1 := HP.out.sz
        have h2 : bnd j + (31 + 10 * j) ≤ 781 := bnd_le (j := j + 1) (by omega)
        omega)
      unfold Rt.v at cR
      have CRA := Lib.hid (cR _ (bdr (Below.refl _ _)))
      have cB := (cR _ (bdr (bal (Below.refl W4.heap.size W4) (o := .cells #[.int .u64 0, .int .i64 0, .int .i64 0, .int .i64 0, .int .i64 0, .slice none 0 0, .slice none 0 0] 65)))).mono (fun e w' q => (show ∃ (xs : List Nd) (r' : Rt) (Af : Option Addr) (cf : Nat) (Ad : Option Addr) (cd : Nat) (D : List Nat), e = .returned (.tuple #[.agg #[.int .u64 r'.at_, .int .i64 r'.ht, .int .i64 r'.b, .int .i64 r'.r, .int .i64 r'.n, .slice Af xs.length cf, .slice Ad D.length cd], .int .i64 0]) ∧ RepV A G ⟨ro, rh, rb, rr, rn⟩ (T.take a ++ et ++ T.drop (a + m)) (W4.alloc (.cells #[.int .u64 0, .int .i64 0, .int .i64 0, .int .i64 0, .int .i64 0, .slice none 0 0, .slice none 0 0] 65)).drew xs r' (.slice Af xs.length cf) (.slice Ad D.length cd) D w' ∧ Bk w' W4.heap.size #[.int .u64 0, .int .i64 0, .int .i64 0, .int .i64 0, .int .i64 0, .slice none 0 0, .slice none 0 0] 65 from by
        obtain ⟨xs, r', Af, cf, Ad, cd, D, e1, q1⟩ := q
        exact ⟨xs, r', Af, cf, Ad, cd, D, e1, q1, (q1.fr.block _ (Bk.new W4 _ _).drew.lt (fun k => by have := HAL.out _ k; have := FR4.out.size; omega)).trans (Bk.new W4 _ _).drew⟩))
      have CRB := Lib.hid cB
      clear cR cB
      have HA1 := Lib.hid (fun (W5 : World) (xs5 : List Nd) (y0 y1 y2 y3 y4 : Nat) (Af : Option Addr) (cf : Nat) (Ad : Option Addr) (cd : Nat) (D : List Nat) (hp5 : RepV A G ⟨ro, rh, rb, rr, rn⟩ (T.take a ++ et ++ T.drop (a + m)) W4.drew xs5 ⟨y0, y1, y2, y3, y4⟩ (.slice Af xs5.length cf) (.slice Ad D.length cd) D W5) => (Lib.hid (Chg.new (v := ⟨⟨ro, rh, rb, rr, rn⟩, T⟩) HAL.out FR4.out BX4.out hbw OV4.out (bdr (Below.refl _ _)) hp5) : Hid (Chg w A G vs ⟨⟨ro, rh, rb, rr, rn⟩, T⟩ (T.take a ++ et ++ T.drop (a + m)) (some ⟨bo, oo, none⟩) cv w'.heap.size W5.heap.size xs5 ⟨y0, y1, y2, y3, y4⟩ Af cf Ad cd D (W5.alloc (.cells #[.int .u64 y0, .int .i64 y1, .int .i64 y2, .int .i64 y3, .int .i64 y4, .slice Af xs5.length cf, .slice Ad D.length cd] 65)))))
      have HB1 := Lib.hid (fun (W5 : World) (xs5 : List Nd) (y0 y1 y2 y3 y4 : Nat) (Af : Option Addr) (cf : Nat) (Ad : Option Addr) (cd : Nat) (D : List Nat) (hp5 : RepV A G ⟨ro, rh, rb, rr, rn⟩ (T.take a ++ et ++ T.drop (a + m)) (W4.alloc (.cells #[.int .u64 0, .int .i64 0, .int .i64 0, .int .i64 0, .int .i64 0, .slice none 0 0, .slice none 0 0] 65)).drew xs5 ⟨y0, y1, y2, y3, y4⟩ (.slice Af xs5.length cf) (.slice Ad D.length cd) D W5) (hk5 : Bk W5 W4.heap.size #[.int .u64 0, .int .i64 0, .int .i64 0, .int .i64 0, .int .i64 0, .slice none 0 0, .slice none 0 0] 65) => (Lib.hid (Chg.old7 (v := ⟨⟨ro, rh, rb, rr, rn⟩, T⟩) HAL.out FR4.out BX4.out hbw OV4.out (bdr (bal (Below.refl _ _))) hp5 hbw4 hk5) : Hid (Chg w A G vs ⟨⟨ro, rh, rb, rr, rn⟩, T⟩ (T.take a ++ et ++ T.drop (a + m)) (some ⟨bo, oo, none⟩) cv w'.heap.size W4.heap.size xs5 ⟨y0, y1, y2, y3, y4⟩ Af cf Ad cd D (((((((W5.setCell ⟨W4.heap.size, 0, none⟩ (.int .u64 y0)).setCell ⟨W4.heap.size, 1, none⟩ (.int .i64 y1)).setCell ⟨W4.heap.size, 2, none⟩ (.int .i64 y2)).setCell ⟨W4.heap.size, 3, none⟩ (.int .i64 y3)).setCell ⟨W4.heap.size, 4, none⟩ (.int .i64 y4)).setCell ⟨W4.heap.size, 5, none⟩ (.slice Af xs5.length cf)).setCell ⟨W4.heap.size, 6, none⟩ (.slice Ad D.length cd)))))
      go_cut [16, 17] from 35 to 193 (fun p e W => ∃ (bx : Nat) (xs5 : List Nd) (r5 : Rt) (Af : Option Addr) (cf : Nat) (Ad : Option Addr) (cd : Nat) (D : List Nat), p = .pointer (some ⟨bx, 0, none⟩) ∧ e = .int .i64 0 ∧ Hid (Chg w A G vs ⟨⟨ro, rh, rb, rr, rn⟩, T⟩ (T.take a ++ et ++ T.drop (a + m)) (some ⟨bo, oo, none⟩) cv w'.heap.size bx xs5 r5 Af cf Ad cd D W))
      case first =>
        have d0 : W4.drew.cell? ⟨w'.heap.size, 0, none⟩ = some (.int .u64 ro) := x0
        have d1 : W4.drew.cell? ⟨w'.heap.size, 1, none⟩ = some (.int .i64 rh) := x1
        have d2 : W4.drew.cell? ⟨w'.heap.size, 2, none⟩ = some (.int .i64 rb) := x2
        have d3 : W4.drew.cell? ⟨w'.heap.size, 3, none⟩ = some (.int .i64 rr) := x3
        have d4 : W4.drew.cell? ⟨w'.heap.size, 4, none⟩ = some (.int .i64 rn) := x4
        have d5 : W4.drew.cell? ⟨be, oe + j * 4 + 3, none⟩ = some (.string ⟨et.toArray⟩) := e3
        have a0 : (W4.alloc (.cells #[.int .u64 0, .int .i64 0, .int .i64 0, .int .i64 0, .int .i64 0, .slice none 0 0, .slice none 0 0] 65)).drew.cell? ⟨w'.heap.size, 0, none⟩ = some (.int .u64 ro) := Lib.cell?_alloc_some _ x0
        have a1 : (W4.alloc (.cells #[.int .u64 0, .int .i64 0, .int .i64 0, .int .i64 0, .int .i64 0, .slice none 0 0, .slice none 0 0] 65)).drew.cell? ⟨w'.heap.size, 1, none⟩ = some (.int .i64 rh) := Lib.cell?_alloc_some _ x1
        have a2 : (W4.alloc (.cells #[.int .u64 0, .int .i64 0, .int .i64 0, .int .i64 0, .int .i64 0, .slice none 0 0, .slice none 0 0] 65)).drew.cell? ⟨w'.heap.size, 2, none⟩ = some (.int .i64 rb) := Lib.cell?_alloc_some _ x2
        have a3 : (W4.alloc (.cells #[.int .u64 0, .int .i64 0, .int .i64 0, .int .i64 0, .int .i64 0, .slice none 0 0, .slice none 0 0] 65)).drew.cell? ⟨w'.heap.size, 3, none⟩ = some (.int .i64 rr) := Lib.cell?_alloc_some _ x3
        have a4 : (W4.alloc (.cells #[.int .u64 0, .int .i64 0, .int .i64 0, .int .i64 0, .int .i64 0, .slice none 0 0, .slice none 0 0] 65)).drew.cell? ⟨w'.heap.size, 4, none⟩ = some (.int .i64 rn) := Lib.cell?_alloc_some _ x4
        have a5 : (W4.alloc (.cells #[.int .u64 0, .int .i64 0, .int .i64 0, .int .i64 0, .int .i64 0, .slice none 0 0, .slice none 0 0] 65)).drew.cell? ⟨be, oe + j * 4 + 3, none⟩ = some (.string ⟨et.toArray⟩) := Lib.cell?_alloc_some _ e3
        have dF : Hid (FrT (arT A) w W4.drew) := Lib.hid FR4.out.drew
        have aF : Hid (FrT (arT A) w (W4.alloc (.cells #[.int .u64 0, .int .i64 0, .int .i64 0, .int .i64 0, .int .i64 0, .slice none 0 0, .slice none 0 0] 65)).drew) := Lib.hid FR4.out.alloc.drew
        have HV := Lib.hid (fun (W5 : World) (f : FrT (arT A) w W5) (q : Bk W5 w'.heap.size #[.int .u64 ro, .int .i64 rh, .int .i64 rb, .int .i64 rr, .int .i64 rn, .string ⟨T.toArray⟩] 41) => (⟨Lib.hid f, q.six.1, q.six.2.1, q.six.2.2.1, q.six.2.2.2.1, q.six.2.2.2.2.1, (HEC.out W5 f).1⟩ : Hid (FrT (arT A) w W5) ∧ W5.cell? ⟨w'.heap.size, 0, none⟩ = some (.int .u64 ro) ∧ W5.cell? ⟨w'.heap.size, 1, none⟩ = some (.int .i64 rh) ∧ W5.cell? ⟨w'.heap.size, 2, none⟩ = some (.int .i64 rb) ∧ W5.cell? ⟨w'.heap.size, 3, none⟩ = some (.int .i64 rr) ∧ W5.cell? ⟨w'.heap.size, 4, none⟩ = some (.int .i64 rn) ∧ W5.cell? ⟨be, oe + j * 4 + 3, none⟩ = some (.string ⟨et.toArray⟩)))
        have HVA := Lib.hid (fun (W5 : World) (f : FrT (arT A) W4.drew W5) => HV.out W5 (FR4.out.drew.trans f) ((f.block _ BX4.out.lt (fun k => by have := HAL.out _ k; omega)).trans BX4.out))
        have HVB := Lib.hid (fun (W5 : World) (f : FrT (arT A) (W4.alloc (.cells #[.int .u64 0, .int .i64 0, .int .i64 0, .int .i64 0, .int .i64 0, .slice none 0 0, .slice none 0 0] 65)).drew W5) => HV.out W5 (FR4.out.alloc.drew.trans f) ((f.block _ (BX4.out.alloc (o := (.cells #[.int .u64 0, .int .i64 0, .int .i64 0, .int .i64 0, .int .i64 0, .slice none 0 0, .slice none 0 0] 65))).drew.lt (fun k => by have := HAL.out _ k; omega)).trans BX4.out.alloc.drew))
        go_region_held3 (fun W => Hid (FrT (arT A) w W) ∧ W.cell? ⟨w'.heap.size, 0, none⟩ = some (.int .u64 ro) ∧ W.cell? ⟨w'.heap.size, 1, none⟩ = some (.int .i64 rh) ∧ W.cell? ⟨w'.heap.size, 2, none⟩ = some (.int .i64 rb) ∧ W.cell? ⟨w'.heap.size, 3, none⟩ = some (.int .i64 rr) ∧ W.cell? ⟨w'.heap.size, 4, none⟩ = some (.int .i64 rn) ∧ W.cell? ⟨be, oe + j * 4 + 3, none⟩ = some (.string ⟨et.toArray⟩))
          (refine ⟨?_, ?_, ?_, ?_, ?_, ?_, ?_⟩ <;> with_reducible first | assumption | exact hidFrT_alloc (by assumption) _ | exact Lib.cell?_alloc_some _ (by assumption))
          (first
            | (go_at_call 18; (with_reducible refine CRA.out.mono ?_); rintro e w5 ⟨xs5, ⟨y0, y1, y2, y3, y4⟩, Af, cf, Ad, cd, D, rfl, hp5⟩
               obtain ⟨zF, z0, z1, z2, z3, z4, z5⟩ := HVA.out w5 hp5.fr
               have HC5 := HA1.out _ _ _ _ _ _ _ _ _ _ _ _ hp5)
            | (go_at_call 18; (with_reducible refine CRB.out.mono ?_); rintro e w5 ⟨xs5, ⟨y0, y1, y2, y3, y4⟩, Af, cf, Ad, cd, D, rfl, hp5, hk5⟩
               obtain ⟨zF, z0, z1, z2, z3, z4, z5⟩ := HVB.out w5 hp5.fr
               have HC5 := HB1.out _ _ _ _ _ _ _ _ _ _ _ _ hp5 hk5
               obtain ⟨vF, v0, v1, v2, v3, v4, v5⟩ := HV.out _ HC5.out.fr HC5.out.ver
               obtain ⟨k0, k1, k2, k3, k4, k5, k6, f0, f1, f2, f3, f4, f5, f6⟩ := hk5.seven
               have hl5 := hk5.lt))
        all_goals
          go_wp2_with fail
          go_meet
          with_reducible exact ⟨_, _, _, _, _, _, _, _, rfl, rfl, HC5⟩
      case rest =>
        obtain ⟨bx, xs5, ⟨p0, p1, p2, p3, p4⟩, Af, cf, Ad, cd, D, rfl, rfl, HC⟩ := hcut
        generalize wc = wd5 at *
        obtain ⟨w0', w1', hrep⟩ := HC.out.rep
        have hTT : (T.take a ++ et ++ T.drop (a + m)).length ≤ T.length + et.length := by
          have := HA2.out
          simp only [List.length_append, List.length_take, List.length_drop]
          omega
        have HVP := Lib.hid (HP.out.step HGOK.out HMEM.out hrep hTT het)
        have HCK := Lib.hid (HP.out.checks HGOK.out HMEM.out hrep)
        have HLX := Lib.hid HC.out.ar.le
        have hxl : G.length + xs5.length ≤ 1000 := by have := HLX.out; rw [List.length_append] at this; exact this
        have hG5 : (G ++ xs5).length ≤ 999 := by have := HVP.out.sz; have := bnd_le (j := j + 1) (by omega); omega
        have CS5 := Lib.hid (fun W (p : Below wd5.heap.size wd5 W) => ((HC.out.ar.ext p).stats hG5).mono (fun e w' q => (show ∃ v0 v1 v3 v4 v5 v6 : Value, e = .returned (.agg #[v0, v1, .int .i64 ((G.length : Int) + (xs5.length : Int)), v3, v4, v5, v6]) ∧ Below W.heap.size W w' from by
          obtain ⟨wd, e1, e2⟩ := q
          rw [show ((G ++ xs5).length : Int) = (G.length : Int) + (xs5.length : Int) by rw [List.length_append]; omega] at e1
          exact ⟨_, _, _, _, _, _, e1, e2⟩)))
        have HRV1 := Lib.hid (HP.out.rv _ HMEM.out).1
        have HRV0 := HRV1
        have HRV5 := Lib.hid (HVP.out.rv _ (List.mem_append.2 (.inr (List.mem_singleton.2 rfl)))).1
        have HTL := Lib.hid (HVP.out.rv _ (List.mem_append.2 (.inr (List.mem_singleton.2 rfl)))).2
        obtain ⟨-, -, -, -, -, c5, c6, -⟩ := HC.out.chg.seven
        have hlc := HC.out.chg.lt
        have v7 := IntWalk.i64_in ((G.length : Int) + (xs5.length : Int)) ⟨by omega, by omega⟩
        have hxi : (G.length : Int) + (xs5.length : Int) ≤ 1000 := by omega
        clear CRA CRB HA1 HB1 hrep AR4 FR4 BX4 OV4 x0 x1 x2 x3 x4 x5 e3 hbx hbe HP HMEM
        go_upto_region 15 with (fail)
        go_cut [101] from 35 to 193 (fun b W => b = .bool false ∧ Hid (Below wd5.heap.size wd5 W))
        case first =>
          go_region_with (first | (go_at_call 14; (with_reducible refine (CS5.out _ ?_).mono ?_); (first | exact bdr (Below.refl _ _) | exact Below.refl _ _); rintro e w6 ⟨u0, u1, u3, u4, u5, u6, rfl, hb6⟩; have c5' := (Bk.ext (HC.out.chg.drew) hb6 hlc).seven.2.2.2.2.2.1; have hl6 := (Bk.ext (HC.out.chg.drew) hb6 hlc).lt))
          all_goals
            go_wp2_with fail
            go_meet
            exact ⟨by first | rfl | simp, Lib.hid (bcall (bdr (Below.refl _ _)) hb6)⟩
        case rest =>
          obtain ⟨rfl, HB6⟩ := hcut
          generalize wc = w6 at *
          have HC6 := Lib.hid (HC.out.ext HB6.out)
          have CN1 := Lib.hid (fun W (p : Below w6.heap.size w6 W) => (show Calls Tryz.prog 19 #[.pointer (some ⟨A.ba, 0, none⟩), .agg #[.int .u64 ro, .int .i64 rh, .int .i64 rb, .int .i64 rr, .int .i64 rn]] W fun e w' => ∃ Av cc, e = .returned (.tuple #[.slice Av (ndL (G ++ xs5) ⟨ro, rh, rb, rr, rn⟩).length cc, .int .i64 0]) ∧ Ow hndE w' W.heap.size 35 (.slice Av (ndL (G ++ xs5) ⟨ro, rh, rb, rr, rn⟩).length cc) ((ndL (G ++ xs5) ⟨ro, rh, rb, rr, rn⟩).map hd) ∧ Below W.heap.size W w' from nodes_call A (G ++ xs5) ⟨ro, rh, rb, rr, rn⟩ T W (HC6.out.ar.ext p) HRV1.out.app))
          have CN2 := Lib.hid (fun W (p : Below w6.heap.size w6 W) => (show Calls Tryz.prog 19 #[.pointer (some ⟨A.ba, 0, none⟩), .agg #[.int .u64 p0, .int .i64 p1, .int .i64 p2, .int .i64 p3, .int .i64 p4]] W fun e w' => ∃ Av cc, e = .returned (.tuple #[.slice Av (ndL (G ++ xs5) ⟨p0, p1, p2, p3, p4⟩).length cc, .int .i64 0]) ∧ Ow hndE w' W.heap.size 35 (.slice Av (ndL (G ++ xs5) ⟨p0, p1, p2, p3, p4⟩).length cc) ((ndL (G ++ xs5) ⟨p0, p1, p2, p3, p4⟩).map hd) ∧ Below W.heap.size W w' from nodes_call A (G ++ xs5) ⟨p0, p1, p2, p3, p4⟩ _ W (HC6.out.ar.ext p) HRV5.out))
          have HL1 := Lib.hid (nodup_le (ndL_nodup (G ++ xs5) ⟨ro, rh, rb, rr, rn⟩) (fun x hx => ndL_lt HC6.out.ar.ok HRV1.out.app x hx))
          have HL2 := Lib.hid (nodup_le (ndL_nodup (G ++ xs5) ⟨p0, p1, p2, p3, p4⟩) (fun x hx => ndL_lt HC6.out.ar.ok HRV5.out x hx))
          have HCK' := Lib.hid (show (∀ x ∈ ndL (G ++ xs5) ⟨ro, rh, rb, rr, rn⟩, (x ∈ ndL (G ++ xs5) ⟨p0, p1, p2, p3, p4⟩ ↔ ¬ x ∈ D) ∧ ¬ G.length ≤ x) ∧ ∀ x ∈ ndL (G ++ xs5) ⟨p0, p1, p2, p3, p4⟩, (x ∈ ndL (G ++ xs5) ⟨ro, rh, rb, rr, rn⟩ ↔ ¬ (G.length ≤ x ∧ x < (G ++ xs5).length)) from HCK.out)
          obtain ⟨x0, x1, x2, x3, x4, x5, -⟩ := HC6.out.ver.six
          have hlv := HC6.out.ver.lt
          clear HC HCK c5 c6 hlc HB6 CS5 HRV1 HRV5 v7
          generalize ndL (G ++ xs5) ⟨ro, rh, rb, rr, rn⟩ = L1 at *
          generalize ndL (G ++ xs5) ⟨p0, p1, p2, p3, p4⟩ = L2 at *
          go_wp2_with fail
          refine (CN1.out _ (Below.refl _ _)).mono ?_
          rintro e w7 ⟨A1, c1, rfl, ho1, hb7⟩
          have HC7 := Lib.hid (HC6.out.ext hb7)
          have HO1 := Lib.hid ho1
          have C2 := Lib.hid (CN2.out _ hb7)
          obtain ⟨y0, y1, y2, y3, y4, y5, y6, -⟩ := HC7.out.chg.seven
          have hly := HC7.out.chg.lt
          clear x0 x1 x2 x3 x4 x5 hlv HC6 CN1 CN2 ho1 hb7
          go_wp2_with fail
          refine C2.out.mono ?_
          rintro e w8 ⟨A2, c2, rfl, ho2, hb8⟩
          have HC8 := Lib.hid (HC7.out.ext hb8)
          have HS1 := Lib.hid (HO1.out.ext hb8 (Nat.le_refl _)).sl
          have HS2 := Lib.hid ho2.sl
          have HSD := Lib.hid HC8.out.drop.sl
          have HSF := Lib.hid (show Sl hndE w8 (.slice Af xs5.length cf) ((frI G.length xs5.length).map hd) by rw [frI_hd]; exact HC8.out.fresh.sl)
          have hDl : D.length ≤ 100000 := by
            obtain ⟨w0', w1', hrep⟩ := HC8.out.rep
            have := nodup_le hrep.nodup (n := 1000) (fun x hx => by
              obtain ⟨c', I', w1, h1, h2, h3, h4, h5⟩ := hrep.plan
              have := rtR_lt HGOK.out HRV0.out ((h4 x).1 hx).1
              omega)
            omega
          have H1 := Lib.hid (fun x W (p : Below w8.heap.size w8 W) => has_any A1 c1 L1 x W (HS1.out.ext p) (by have := HL1.out; omega))
          have H2 := Lib.hid (fun x W (p : Below w8.heap.size w8 W) => has_any A2 c2 L2 x W (HS2.out.ext p) (by have := HL2.out; omega))
          have HD1 := Lib.hid (fun x W (p : Below w8.heap.size w8 W) => has_any Ad cd D x W (HSD.out.ext p) hDl)
          have HF1 := Lib.hid (fun x W (p : Below w8.heap.size w8 W) => (show Calls Tryz.prog 20 #[.slice Af xs5.length cf, .int .u64 (hd x : Nat)] W fun e w' => e = .returned (.bool (decide (x ∈ frI G.length xs5.length))) ∧ w' = W by
            have := has_any Af cf (frI G.length xs5.length) x W (by rw [frI_len]; exact HSF.out.ext p) (by rw [frI_len]; omega)
            rw [frI_len] at this
            exact this))
          have hl1i : (L1.length : Int) ≤ 1000 := by have := HL1.out; omega
          have hl2i : (L2.length : Int) ≤ 1000 := by have := HL2.out; omega
          have HCB := Lib.hid (fun W (p : Below w8.heap.size w8 W) => (show W.cell? ⟨bx, 5, none⟩ = some (.slice Af xs5.length cf) ∧ W.cell? ⟨bx, 6, none⟩ = some (.slice Ad D.length cd) ∧ bx < W.heap.size from by
            have h := (HC8.out.ext p).chg
            exact ⟨h.seven.2.2.2.2.2.1, h.seven.2.2.2.2.2.2.1, h.lt⟩))
          clear y0 y1 y2 y3 y4 y5 y6 hly HC7 C2 ho2 hb8 HO1
          go_wp2_with fail
          go_loopw [21] (fun i W => ∃ k : Nat, k ≤ L1.length ∧ i = .int .i64 k ∧ Hid (Below w8.heap.size w8 W)) (fun i _ => L1.length - (intOf i).toNat)
          case atStart => exact ⟨0, by omega, rfl, Lib.hid (Below.refl _ _)⟩
          case round =>
            obtain ⟨k, hk, rfl, HB⟩ := hrel
            have hsz := HB.out.size
            by_cases hlk : k < L1.length
            · obtain ⟨b3, o3, cap3, hv3, hbl3, hcc3⟩ := HS1.out.hnd (k := k) (by simpa using hlk)
              rw [List.length_map] at hv3
              obtain ⟨rfl, rfl⟩ : A1 = some ⟨b3, o3, none⟩ ∧ c1 = cap3 := by injection hv3 with e1 e2 e3; exact ⟨e1, e3⟩
              have q0 := hcc3 wr HB.out
              rw [List.getElem_map] at q0
              obtain ⟨q5, q6, hlb⟩ := HCB.out wr HB.out
              obtain ⟨k1, k2⟩ := HCK'.out.1 _ (List.getElem_mem hlk)
              have hki : (k : Int) < (L1.length : Int) := by omega
              have hb3w := Nat.lt_of_lt_of_le hbl3 hsz
              clear hcc3 hv3
              generalize L1[k] = x at *
              have hnf : decide (x ∈ frI G.length xs5.length) = false := decide_eq_false (fun q => k2 ((frI_mem _ _ _).1 q).1)
              have F1 := Lib.hid (fun W p => HF1.out x W p)
              rw [hnf] at F1
              by_cases hx : x ∈ L2
              · have G1 := Lib.hid (fun W p => H2.out x W p)
                have G2 := Lib.hid (fun W p => HD1.out x W p)
                rw [decide_eq_true hx] at G1
                rw [decide_eq_false (k1.1 hx)] at G2
                clear hnf k1 k2 hx
                go_wp2_with fail
                go_quiet (first | (go_at_call_of 20 (Value.slice A2 L2.length c2); exact Calls.quiet_of_same (G1.out _ (by first | exact HB.out | exact bdrN HB.out))) | (go_at_call_of 20 (Value.slice Ad D.length cd); exact Calls.quiet_of_same (G2.out _ (by first | exact HB.out | exact bdrN HB.out))) | (go_at_call_of 20 (Value.slice Af xs5.length cf); exact Calls.quiet_of_same (F1.out _ (by first | exact HB.out | exact bdrN HB.out))))
                go_wp2_with fail
                go_roundw
                case rel => go_light; exact ⟨k + 1, by omega, by go_num, Lib.hid (bdrN HB.out)⟩
                case measure => go_light; simp [intOf]; omega
              · have G1 := Lib.hid (fun W p => H2.out x W p)
                have G2 := Lib.hid (fun W p => HD1.out x W p)
                rw [decide_eq_false hx] at G1
                rw [decide_eq_true (Classical.byContradiction fun q => hx (k1.2 q))] at G2
                clear hnf k1 k2 hx
                go_wp2_with fail
                go_quiet (first | (go_at_call_of 20 (Value.slice A2 L2.length c2); exact Calls.quiet_of_same (G1.out _ (by first | exact HB.out | exact bdrN HB.out))) | (go_at_call_of 20 (Value.slice Ad D.length cd); exact Calls.quiet_of_same (G2.out _ (by first | exact HB.out | exact bdrN HB.out))) | (go_at_call_of 20 (Value.slice Af xs5.length cf); exact Calls.quiet_of_same (F1.out _ (by first | exact HB.out | exact bdrN HB.out))))
                go_wp2_with fail
                go_roundw
                case rel => go_light; exact ⟨k + 1, by omega, by go_num, Lib.hid (bdrN HB.out)⟩
                case measure => go_light; simp [intOf]; omega
            · obtain rfl : k = L1.length := by omega
              clear HD1 HSD H2
              go_wp2_with fail
              go_loopw [22] (fun i W => ∃ k : Nat, k ≤ L2.length ∧ i = .int .i64 k ∧ Hid (Below w8.heap.size w8 W)) (fun i _ => L2.length - (intOf i).toNat)
              case atStart => exact ⟨0, by omega, rfl, HB⟩
              clear HB hsz
              case round =>
                obtain ⟨k, hk, rfl, HB⟩ := hrel
                have hsz := HB.out.size
                by_cases hlk : k < L2.length
                · obtain ⟨b3, o3, cap3, hv3, hbl3, hcc3⟩ := HS2.out.hnd (k := k) (by simpa using hlk)
                  rw [List.length_map] at hv3
                  obtain ⟨rfl, rfl⟩ : A2 = some ⟨b3, o3, none⟩ ∧ c2 = cap3 := by injection hv3 with e1 e2 e3; exact ⟨e1, e3⟩
                  have q0 := hcc3 wr HB.out
                  rw [List.getElem_map] at q0
                  obtain ⟨q5, -, hlb⟩ := HCB.out wr HB.out
                  have k1 := HCK'.out.2 _ (List.getElem_mem hlk)
                  have hki : (k : Int) < (L2.length : Int) := by omega
                  have hb3w := Nat.lt_of_lt_of_le hbl3 hsz
                  clear hcc3 hv3
                  generalize L2[k] = x at *
                  have hfi : x ∈ frI G.length xs5.length ↔ (G.length ≤ x ∧ x < (G ++ xs5).length) := by rw [frI_mem, List.length_append]
                  by_cases hx : x ∈ L1
                  · have G1 := Lib.hid (fun W p => H1.out x W p)
                    have F1 := Lib.hid (fun W p => HF1.out x W p)
                    rw [decide_eq_true hx] at G1
                    rw [decide_eq_false (fun q => k1.1 hx (hfi.1 q))] at F1
                    clear k1 hx hfi
                    go_wp2_with fail
                    go_quiet (first | (go_at_call_of 20 (Value.slice A1 L1.length c1); exact Calls.quiet_of_same (G1.out _ (by first | exact HB.out | exact bdrN HB.out))) | (go_at_call_of 20 (Value.slice Af xs5.length cf); exact Calls.quiet_of_same (F1.out _ (by first | exact HB.out | exact bdrN HB.out))))
                    go_wp2_with fail
                    go_roundw
                    case rel => go_light; exact ⟨k + 1, by omega, by go_num, Lib.hid (bdrN HB.out)⟩
                    case measure => go_light; simp [intOf]; omega
                  · have G1 := Lib.hid (fun W p => H1.out x W p)
                    have F1 := Lib.hid (fun W p => HF1.out x W p)
                    rw [decide_eq_false hx] at G1
                    rw [decide_eq_true (Classical.byContradiction fun q => hx (k1.2 (fun z => q (hfi.2 z))))] at F1
                    clear k1 hx hfi
                    go_wp2_with fail
                    go_quiet (first | (go_at_call_of 20 (Value.slice A1 L1.length c1); exact Calls.quiet_of_same (G1.out _ (by first | exact HB.out | exact bdrN HB.out))) | (go_at_call_of 20 (Value.slice Af xs5.length cf); exact Calls.quiet_of_same (F1.out _ (by first | exact HB.out | exact bdrN HB.out))))
                    go_wp2_with fail
                    go_roundw
                    case rel => go_light; exact ⟨k + 1, by omega, by go_num, Lib.hid (bdrN HB.out)⟩
                    case measure => go_light; simp [intOf]; omega
                · obtain rfl : k = L2.length := by omega
                  have HC9 := Lib.hid (HC8.out.ext HB.out)
                  clear HC8 H1 HF1 HS1 HS2 HSF HCB HCK' HB hsz
                  obtain ⟨e3, hbe⟩ := HEC.out wr HC9.out.fr
                  obtain ⟨y0, y1, y2, y3, y4, -⟩ := HC9.out.chg.seven
                  obtain ⟨-, -, -, -, -, x5, -⟩ := HC9.out.ver.six
                  have hly := HC9.out.chg.lt
                  have hlv := HC9.out.ver.lt
                  simp only at y0 y1 y2 y3 y4 x5
                  have hx1 := ext_take T a
                  have hx2 := ext_drop T (a + m)
                  have hc1 := cat_str (T.take a) et
                  have hc2 := cat_str (T.take a ++ et) (T.drop (a + m))
                  have HR9 := Lib.hid HC9.out.row; have HC9b := Lib.hid HC9.out.chg; have HA9 := Lib.hid HC9.out.ar; have HF9 := Lib.hid HC9.out.fr
                  have ham : (a : Int) + (m : Int) ≤ (T.length : Int) := by have := HM2.out; have := HA2.out; omega
                  have v6 := IntWalk.i64_in ((a : Int) + (m : Int)) ⟨by omega, by omega⟩
                  have ham0 : (0 : Int) ≤ (a : Int) + (m : Int) := by omega
                  have hamn : ((a : Int) + (m : Int)).toNat = a + m := by omega
                  have hvl9 : vs.length ≤ 11 := by omega
                  have hbwr : w.heap.size ≤ wr.heap.size := HF9.out.size
                  have hP : ((T.take a).length : Int) ≤ 480 := by rw [List.length_take]; omega
                  have hS : ((T.drop (a + m)).length : Int) ≤ 480 := by rw [List.length_drop]; omega
                  have hE4 : (et.length : Int) ≤ 40 := by omega
                  have hQ : ((T.take a ++ et).length : Int) ≤ 520 := by rw [List.length_append, List.length_take]; omega
                  have hq1 : (T.take a ++ et).length = (T.take a).length + et.length := List.length_append
                  have hq2 : (T.take a ++ et ++ T.drop (a + m)).length = (T.take a ++ et).length + (T.drop (a + m)).length := List.length_append
                  have hq3 : ¬ 9223372036854775807 < (T.take a).length + et.length := by rw [List.length_take]; omega
                  have hq4 : ¬ 9223372036854775807 < (T.take a ++ et).length + (T.drop (a + m)).length := by omega
                  clear HC9 HEC HTL hTT hP hS hE4 hQ hq1 hq2
                  generalize T.take a ++ et ++ T.drop (a + m) = T' at *
                  generalize T.take a ++ et = Q at *
                  generalize T.take a = P at *
                  generalize T.drop (a + m) = S at *
                  have hnsl : ∀ (W : World), Sl vrE (W.alloc (.cells #[.int .u64 p0, .int .i64 p1, .int .i64 p2, .int .i64 p3, .int .i64 p4, .string ⟨T'.toArray⟩] 41)) (.slice (some ⟨W.heap.size, 0, none⟩) 1 1) [(⟨⟨p0, p1, p2, p3, p4⟩, T'⟩ : Vr)] := fun W => new_slB (E := vrE) (x := ⟨⟨p0, p1, p2, p3, p4⟩, T'⟩) (cs := [.int .u64 p0, .int .i64 p1, .int .i64 p2, .int .i64 p3, .int .i64 p4, .string ⟨T'.toArray⟩]) rfl _
                  have HN := Lib.hid hnsl
                  have hfin : ∀ w9, (wr.alloc (.cells #[.int .u64 p0, .int .i64 p1, .int .i64 p2, .int .i64 p3, .int .i64 p4, .string ⟨T'.toArray⟩] 41)).drew.grownBy w9 (Value.slice (some ⟨bo, oo, none⟩) vs.length cv).ownBlock → ArM w9 A (G ++ xs5) ∧ FrT (arT A) w w9 := fun w9 hg => by
                    have hA := HA9.out.ext (bal (Below.refl wr.heap.size wr) (o := .cells #[.int .u64 p0, .int .i64 p1, .int .i64 p2, .int .i64 p3, .int .i64 p4, .string ⟨T'.toArray⟩] 41))
                    have hR := HR9.out.alloc (.cells #[.int .u64 p0, .int .i64 p1, .int .i64 p2, .int .i64 p3, .int .i64 p4, .string ⟨T'.toArray⟩] 41)
                    have hF := HF9.out.alloc (o := .cells #[.int .u64 p0, .int .i64 p1, .int .i64 p2, .int .i64 p3, .int .i64 p4, .string ⟨T'.toArray⟩] 41)
                    refine ⟨hA.setRt (fun k hk => hg.block k (hA.lt hk) (fun e => by have := HAL.out k hk; have := (hR.lt k e.symm).1; omega)) hg.size (fun c cs hq => (hg.block c hq.lt (fun e => hR.ne_bk hq (by decide) c e.symm rfl)).trans hq), hF.drew.grown hg (fun k hk => .inr (hR.lt k hk).1)⟩
                  have FIN := Lib.hid hfin
                  have nbx : bx ≠ bo := fun e => HR9.out.ne_bk HC9b.out (by decide) bo rfl e.symm
                  have nbv : w'.heap.size ≠ bo := by have := HBO.out; omega
                  have nbe : be ≠ bo := by have := HBE.out; have := (HR9.out.lt bo rfl).1; omega
                  have d0 : wr.drew.cell? ⟨bx, 0, none⟩ = some (.int .u64 p0) := y0
                  have d1 : wr.drew.cell? ⟨bx, 1, none⟩ = some (.int .i64 p1) := y1
                  have d2 : wr.drew.cell? ⟨bx, 2, none⟩ = some (.int .i64 p2) := y2
                  have d3 : wr.drew.cell? ⟨bx, 3, none⟩ = some (.int .i64 p3) := y3
                  have d4 : wr.drew.cell? ⟨bx, 4, none⟩ = some (.int .i64 p4) := y4
                  have d5 : wr.drew.cell? ⟨w'.heap.size, 5, none⟩ = some (.string ⟨T.toArray⟩) := x5
                  have d6 : wr.drew.cell? ⟨be, oe + j * 4 + 3, none⟩ = some (.string ⟨et.toArray⟩) := e3
                  have g0 : (wr.alloc (.cells #[.int .u64 p0, .int .i64 p1, .int .i64 p2, .int .i64 p3, .int .i64 p4, .string ⟨T'.toArray⟩] 41)).drew.cell? ⟨bx, 0, none⟩ = some (.int .u64 p0) := Lib.cell?_alloc_some _ y0
                  have g1 : (wr.alloc (.cells #[.int .u64 p0, .int .i64 p1, .int .i64 p2, .int .i64 p3, .int .i64 p4, .string ⟨T'.toArray⟩] 41)).drew.cell? ⟨bx, 1, none⟩ = some (.int .i64 p1) := Lib.cell?_alloc_some _ y1
                  have g2 : (wr.alloc (.cells #[.int .u64 p0, .int .i64 p1, .int .i64 p2, .int .i64 p3, .int .i64 p4, .string ⟨T'.toArray⟩] 41)).drew.cell? ⟨bx, 2, none⟩ = some (.int .i64 p2) := Lib.cell?_alloc_some _ y2
                  have g3 : (wr.alloc (.cells #[.int .u64 p0, .int .i64 p1, .int .i64 p2, .int .i64 p3, .int .i64 p4, .string ⟨T'.toArray⟩] 41)).drew.cell? ⟨bx, 3, none⟩ = some (.int .i64 p3) := Lib.cell?_alloc_some _ y3
                  have g4 : (wr.alloc (.cells #[.int .u64 p0, .int .i64 p1, .int .i64 p2, .int .i64 p3, .int .i64 p4, .string ⟨T'.toArray⟩] 41)).drew.cell? ⟨bx, 4, none⟩ = some (.int .i64 p4) := Lib.cell?_alloc_some _ y4
                  have g5 : (wr.alloc (.cells #[.int .u64 p0, .int .i64 p1, .int .i64 p2, .int .i64 p3, .int .i64 p4, .string ⟨T'.toArray⟩] 41)).drew.cell? ⟨w'.heap.size, 5, none⟩ = some (.string ⟨T.toArray⟩) := Lib.cell?_alloc_some _ x5
                  have g6 : (wr.alloc (.cells #[.int .u64 p0, .int .i64 p1, .int .i64 p2, .int .i64 p3, .int .i64 p4, .string ⟨T'.toArray⟩] 41)).drew.cell? ⟨be, oe + j * 4 + 3, none⟩ = some (.string ⟨et.toArray⟩) := Lib.cell?_alloc_some _ e3
                  have hfw : ∀ (w9 : World), (wr.alloc (.cells #[.int .u64 p0, .int .i64 p1, .int .i64 p2, .int .i64 p3, .int .i64 p4, .string ⟨T'.toArray⟩] 41)).drew.grownBy w9 (Value.slice (some ⟨bo, oo, none⟩) vs.length cv).ownBlock → w9.cell? ⟨bx, 0, none⟩ = some (.int .u64 p0) ∧ w9.cell? ⟨bx, 1, none⟩ = some (.int .i64 p1) ∧ w9.cell? ⟨bx, 2, none⟩ = some (.int .i64 p2) ∧ w9.cell? ⟨bx, 3, none⟩ = some (.int .i64 p3) ∧ w9.cell? ⟨bx, 4, none⟩ = some (.int .i64 p4) ∧ w9.cell? ⟨w'.heap.size, 5, none⟩ = some (.string ⟨T.toArray⟩) ∧ w9.cell? ⟨be, oe + j * 4 + 3, none⟩ = some (.string ⟨et.toArray⟩) := fun w9 hg => ⟨hg.cell g0 (fun e => nbx (Option.some.inj e)), hg.cell g1 (fun e => nbx (Option.some.inj e)), hg.cell g2 (fun e => nbx (Option.some.inj e)), hg.cell g3 (fun e => nbx (Option.some.inj e)), hg.cell g4 (fun e => nbx (Option.some.inj e)), hg.cell g5 (fun e => nbv (Option.some.inj e)), hg.cell g6 (fun e => nbe (Option.some.inj e))⟩
                  have FW := Lib.hid hfw
                  clear hnsl hfin hfw HA9 HF9 nbx nbv nbe
                  go_upto_region 31 with (fail)
                  go_region_held3 (fun W => W.cell? ⟨bx, 0, none⟩ = some (.int .u64 p0) ∧ W.cell? ⟨bx, 1, none⟩ = some (.int .i64 p1) ∧ W.cell? ⟨bx, 2, none⟩ = some (.int .i64 p2) ∧ W.cell? ⟨bx, 3, none⟩ = some (.int .i64 p3) ∧ W.cell? ⟨bx, 4, none⟩ = some (.int .i64 p4) ∧ W.cell? ⟨w'.heap.size, 5, none⟩ = some (.string ⟨T.toArray⟩) ∧ W.cell? ⟨be, oe + j * 4 + 3, none⟩ = some (.string ⟨et.toArray⟩))
                    (refine ⟨?_, ?_, ?_, ?_, ?_, ?_, ?_⟩ <;> assumption)
                    (first
                      | (refine stepOwSb _ vrOK rfl (.tmp 171) (.tmp 192) rfl w.heap.size ?_ (.slice (some ⟨bo, oo, none⟩) vs.length cv) vs rfl ?_ _ [(⟨⟨p0, p1, p2, p3, p4⟩, T'⟩ : Vr)] rfl ?_ ?_ ?_
                         · exact le_drew _ hbwr
                         · exact Ow.alloc HR9.out _
                         · exact HN.out wr
                         · exact (show vs.length + 1 ≤ 1000000 by omega)
                         intro A8 c8 w9 hown9 hg9 _
                         have HO9 := Lib.hid hown9
                         have HG9 := Lib.hid hg9
                         obtain ⟨q0, q1, q2, q3, q4, q5, q6⟩ := FW.out w9 hg9
                         clear hown9 hg9))
                  go_wp2_with fail
                  go_roundw
                  case rel =>
                    go_light
                    obtain ⟨f1, f2⟩ := FIN.out _ HG9.out
                    exact ⟨j + 1, _, vs ++ [⟨⟨p0, p1, p2, p3, p4⟩, T'⟩], A8, c8, by omega, by go_num, by rw [List.length_append]; rfl, HVP, Lib.hid f1, Lib.hid (by rw [List.length_append]; exact HO9.out), Lib.hid f2⟩
                  case measure => go_light; simp [intOf]; omega
    · obtain rfl : j = l.length := by omega
      go_wp2_with fail
      go_ret2
      exact ⟨G, vs, Av, cv, rfl, HA.out, HO.out, HF.out, HP.out⟩

end Go.Proofs.YtclmjnobacepjaaGreat
