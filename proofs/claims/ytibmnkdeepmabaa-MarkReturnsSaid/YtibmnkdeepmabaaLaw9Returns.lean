/- quartolaw09.MarkReturns returns true: the walk. -/
import Derived.Test.YtibmnkdeepmabaaKnown9
import Derived.Test.YtibmnkdeepmabaaPlainR9
import Derived.Deep.OwnRows
namespace Go.Proofs.Ytibmnkdeepmabaa
open Go.RowKit

/-- the cells of a slice of marks whose block is known -/
theorem Sl.base3R {w : World} {A : Option Addr} {n cap : Nat} {l : List Mk} (h : Sl mkE w (.slice A n cap) l) (h0 : 0 < l.length) : ∃ b off, A = some ⟨b, off, none⟩ := by
  obtain ⟨b, off, cap', hv, -⟩ := h.mk3 h0
  injection hv with e1 e2 e3
  exact ⟨b, off, e1⟩
theorem Sl.cells3R {w : World} {b off n cap : Nat} {l : List Mk} (h : Sl mkE w (.slice (some ⟨b, off, none⟩) n cap) l) {k : Nat} (hk : k < l.length) :
    w.cell? ⟨b, off + k * 3, none⟩ = some (.int .u32 l[k].id) ∧ w.cell? ⟨b, off + k * 3 + 1, none⟩ = some (.int .i64 l[k].a) ∧ w.cell? ⟨b, off + k * 3 + 2, none⟩ = some (.int .u8 l[k].g) := by
  obtain ⟨b', off', cap', hv, -, c0, c1, c2⟩ := h.mk3 hk
  obtain ⟨rfl, rfl⟩ : b = b' ∧ off = off' := by injection hv with e1 e2 e3; injection e1 with e1; injection e1 with e1 e2; exact ⟨e1, e2⟩
  exact ⟨c0, c1, c2⟩
theorem Sl.cellsTR {w : World} {b off n cap : Nat} {l : List Mk} {d : List Pc} (h : Sl mkE w (.slice (some ⟨b, off, none⟩) n cap) (l.map (shM d))) {k : Nat} (hk : k < l.length) :
    w.cell? ⟨b, off + k * 3, none⟩ = some (.int .u32 l[k].id) ∧ w.cell? ⟨b, off + k * 3 + 1, none⟩ = some (.int .i64 (posV d l[k].a l[k].g)) ∧ w.cell? ⟨b, off + k * 3 + 2, none⟩ = some (.int .u8 l[k].g) := by
  have := h.cells3R (k := k) (by rw [List.length_map]; exact hk)
  rw [List.getElem_map] at this
  exact this
theorem Sl.cellsTTR {w : World} {b off n cap : Nat} {l : List Mk} {d f : List Pc} (h : Sl mkE w (.slice (some ⟨b, off, none⟩) n cap) ((l.map (shM d)).map (shM f))) {k : Nat} (hk : k < l.length) :
    w.cell? ⟨b, off + k * 3, none⟩ = some (.int .u32 l[k].id) ∧ w.cell? ⟨b, off + k * 3 + 1, none⟩ = some (.int .i64 (posV f (posV d l[k].a l[k].g) l[k].g)) ∧ w.cell? ⟨b, off + k * 3 + 2, none⟩ = some (.int .u8 l[k].g) := by
  have := h.cells3R (k := k) (by rw [List.length_map, List.length_map]; exact hk)
  rw [List.getElem_map, List.getElem_map] at this
  exact this
theorem infoBool9 : (Try.prog.info? 4).map (fun i => (i.zero, i.size, i.bytes)) = some (some (.bool false), 1, 1) := by kernel_rfl

set_option maxHeartbeats 8000000 in
set_option maxRecDepth 100000 in
theorem lawMarkReturns_any (s : List UInt8) (v : Value) (l : List Mk) (v2 : Value) (d : List Pc) (w : World) (hs : s.length ≤ 140737488351232) (h : Sl mkE w v l) (hd : ∀ m, m ∈ l → m.wf) (hl : l.length * 24 ≤ 140737488355328) (h2 : Sl pcE w v2 d) (hd2 : ∀ p, p ∈ d → p.wf) (hl2 : d.length * 32 ≤ 140737488355328) :
    Calls Try.prog 9 #[.string ⟨s.toArray⟩, v, v2] w fun e w' => e = .returned (.bool true) ∧ Below w.heap.size w w' := by
  have cO := fun w x h => own9_any x l w h hl
  have cP := fun w x h => pieces9_any x d w h hl2
  have cI := fun w x h => invert_any s x d w (by omega) h hd2
  have H := Lib.hid h; have H2 := Lib.hid h2; have CO := Lib.hid cO; have CP := Lib.hid cP
  clear cO cP h h2 hl hl2
  by_cases hf : fitE s d = 0
  case neg =>
    have hE : (fitE s d != 0) = true := by simpa using hf
    generalize fitE s d = E at *
    generalize inverseS s d = V at *
    have CI := Lib.hid cI
    clear cI hf hd hd2
    go_enter Try.func9, Try.ntmps9
    go_wp2_with fail
    refine (CP.out _ _ H2.out).mono ?_
    rintro e w1 ⟨x0, rfl, ho, hb⟩
    have H_1 := Lib.hid (H.out.ext hb)
    have H2_1 := Lib.hid (H2.out.ext hb)
    have X_1 := Lib.hid (Sl.of_own ho)
    have B_1 := Lib.hid hb
    clear hb ho H H2
    have HCC := Lib.hid (CI.out _ _ X_1.out)
    go_wp2_with fail
    refine (HCC.out).mono ?_
    rintro e w2 ⟨x2, rfl, ho, hb⟩
    have H_2 := Lib.hid (H_1.out.ext hb)
    have H2_2 := Lib.hid (H2_1.out.ext hb)
    have V_2 := Lib.hid (Sl.of_own ho)
    have B_2 := Lib.hid (B_1.out.trans (hb.mono B_1.out.size))
    clear hb ho X_1 H_1 H2_1 B_1
    clear HCC CI
    go_wp2_with fail
    refine (known9_any _).mono ?_
    rintro e w3 ⟨rfl, hb⟩
    have B_3 := Lib.hid (B_2.out.trans (hb.mono B_2.out.size))
    clear hb V_2 H_2 H2_2 B_2
    go_wp2
    go_ret
    exact ⟨rfl, B_3.out⟩
  case pos =>
    rw [hf] at cI
    have hc0 := fun w x y h k => shift_any x y l d w h hd k hd2
    have eA : shE l d = chkM (inL d) l := by rw [shE, if_pos (fit_ok hf).1]
    by_cases hc : chkM (inL d) l = 0
    case neg =>
      rw [shR, eA, if_neg hc] at hc0
      have hE : (chkM (inL d) l != 0) = true := by simpa using hc
      generalize chkM (inL d) l = E at *
      generalize inverseS s d = V at *
      have C0 := Lib.hid hc0; have CI := Lib.hid cI
      clear cI hf hd hd2 hc0 eA hc
      go_enter Try.func9, Try.ntmps9
      go_wp2_with fail
      refine (CP.out _ _ H2.out).mono ?_
      rintro e w1 ⟨x0, rfl, ho, hb⟩
      have H_1 := Lib.hid (H.out.ext hb)
      have H2_1 := Lib.hid (H2.out.ext hb)
      have X_1 := Lib.hid (Sl.of_own ho)
      have B_1 := Lib.hid hb
      clear hb ho H H2
      have HCC := Lib.hid (CI.out _ _ X_1.out)
      go_wp2_with fail
      refine (HCC.out).mono ?_
      rintro e w2 ⟨x2, rfl, ho, hb⟩
      have H_2 := Lib.hid (H_1.out.ext hb)
      have H2_2 := Lib.hid (H2_1.out.ext hb)
      have V_2 := Lib.hid (Sl.of_own ho)
      have B_2 := Lib.hid (B_1.out.trans (hb.mono B_1.out.size))
      clear hb ho X_1 H_1 H2_1 B_1
      clear HCC CI
      go_wp2_with fail
      refine (CO.out _ _ H_2.out).mono ?_
      rintro e w3 ⟨x3, rfl, ho, hb⟩
      have H_3 := Lib.hid (H_2.out.ext hb)
      have H2_3 := Lib.hid (H2_2.out.ext hb)
      have V_3 := Lib.hid (V_2.out.ext hb)
      have L_3 := Lib.hid (Sl.of_own ho)
      have B_3 := Lib.hid (B_2.out.trans (hb.mono B_2.out.size))
      clear hb ho H_2 H2_2 V_2 B_2
      go_wp2_with fail
      refine (CP.out _ _ H2_3.out).mono ?_
      rintro e w4 ⟨x4, rfl, ho, hb⟩
      have H_4 := Lib.hid (H_3.out.ext hb)
      have H2_4 := Lib.hid (H2_3.out.ext hb)
      have V_4 := Lib.hid (V_3.out.ext hb)
      have L_4 := Lib.hid (L_3.out.ext hb)
      have D_4 := Lib.hid (Sl.of_own ho)
      have B_4 := Lib.hid (B_3.out.trans (hb.mono B_3.out.size))
      clear hb ho H_3 H2_3 V_3 L_3 B_3
      have HCC := Lib.hid (C0.out _ _ _ L_4.out D_4.out)
      go_wp2_with fail
      refine (HCC.out).mono ?_
      rintro e w5 ⟨x5, rfl, ho, hb⟩
      have H_5 := Lib.hid (H_4.out.ext hb)
      have H2_5 := Lib.hid (H2_4.out.ext hb)
      have V_5 := Lib.hid (V_4.out.ext hb)
      have Y_5 := Lib.hid (Sl.of_own ho)
      have B_5 := Lib.hid (B_4.out.trans (hb.mono B_4.out.size))
      clear hb ho L_4 D_4 H_4 H2_4 V_4 B_4
      clear HCC C0 CO CP
      go_wp2_with fail
      refine (known9_any _).mono ?_
      rintro e w6 ⟨rfl, hb⟩
      have B_6 := Lib.hid (B_5.out.trans (hb.mono B_5.out.size))
      clear hb V_5 Y_5 H_5 H2_5 B_5
      go_wp2
      go_ret
      exact ⟨rfl, B_6.out⟩
    case pos =>
      obtain ⟨f1, f2, f3, f4, f5⟩ := ret_facts hf hc hd
      obtain ⟨j0, hj, jz0, jz1, jz2⟩ := info_parts infoBool9
      have he := (fit_ok hf).1
      have hn : s.length ≤ 1048576 := by have := (mod_io he).2.1; omega
      rw [shR, eA, if_pos hc, hc] at hc0
      have hb0 := fun w x y h k => shift_any x y (l.map (shM d)) (inverseS s d) w h (sh_wf he hc hd) k (wf_of_err f1)
      have eB : shE (l.map (shM d)) (inverseS s d) = 0 := by rw [shE, if_pos f1, f2]
      rw [shR, eB, if_pos rfl] at hb0
      have hmk : ∀ w, (Instr.makeSlice 51 (.int .i64 ((s.length : Int) + 1)) (.int .i64 ((s.length : Int) + 1))).run Try.prog w = .ok (.slice (some ⟨w.heap.size, 0, none⟩) (s.length + 1) (s.length + 1)) (w.alloc (.cells (madeCells #[.bool false] (s.length + 1)) 4)) := fun w => by
        have := run_make_row (P := Try.prog) 51 4 j0 (.bool false) Try.underlying51 hj jz0 jz1 rfl .i64 .i64 (s.length + 1) (by rw [jz2]; omega) (by omega) w
        rw [show ((s.length + 1 : Nat) : Int) = (s.length : Int) + 1 by omega] at this
        exact this
      have hF : ∀ i (hi : i < l.length), 0 ≤ l[i].a ∧ l[i].a ≤ s.length ∧ (l[i].g = 0 ∨ l[i].g = 1) ∧
          (l[i].g = 0 → posV (inverseS s d) (posV d l[i].a l[i].g) l[i].g ≤ l[i].a ∧ (l[i].a = 0 → posV (inverseS s d) (posV d l[i].a l[i].g) l[i].g = l[i].a) ∧ ∀ k : Nat, l[i].a = (k : Int) + 1 → (posV (inverseS s d) (posV d l[i].a l[i].g) l[i].g == l[i].a) = kfB d k) ∧
          (l[i].g = 1 → l[i].a ≤ posV (inverseS s d) (posV d l[i].a l[i].g) l[i].g ∧ (l[i].a = s.length → posV (inverseS s d) (posV d l[i].a l[i].g) l[i].g = l[i].a) ∧ ∀ k : Nat, l[i].a = (k : Int) → k < s.length → (posV (inverseS s d) (posV d l[i].a l[i].g) l[i].g == l[i].a) = kfB d k) := fun i hi => f5 _ (List.getElem_mem hi)
      have hV : ∀ i (hi : i < d.length), (∃ N : Nat, d[i].n = N) ∧ inL (d.take (i + 1)) = inL (d.take i) + d[i].n ∧ inL (d.take i) + d[i].n ≤ s.length ∧ 0 ≤ inL (d.take i) := fun i hi => by
        obtain ⟨a, b, c⟩ := inL_take f4 i hi
        exact ⟨Int.eq_ofNat_of_zero_le (valid_n (f4 _ (List.getElem_mem hi))).2.1, a, by omega, c⟩
      have hK : ∀ i (hi : i < d.length) (x N : Nat), d[i].n = N → kfB (d.take (i + 1)) x = if inL (d.take i) ≤ x ∧ (x : Int) < inL (d.take i) + N then d[i].k == 1 else kfB (d.take i) x := fun i hi x N h => kfB_snoc f4 i hi x N h
      have hl64 : l.length ≤ 64 := ((chkM_zero _ _).1 hc).len
      have hd4 : d.length ≤ 100000 := by have := (mod_of he).2.1; omega
      have C0 := Lib.hid hc0; have B0 := Lib.hid hb0; have HF := Lib.hid hF; have HV := Lib.hid hV; have HK := Lib.hid hK; have CI := Lib.hid cI
      have hlX := Lib.hid (show ((l.map (shM d)).map (shM (inverseS s d))).length = l.length by rw [List.length_map, List.length_map])
      clear cI hf hd hd2 hc0 hb0 eA eB hc f1 f2 f3 f4 f5 hF hV hK he hs hj jz0 jz1 jz2
      obtain ⟨A, cap, rfl, -, -, -⟩ := id H.out
      obtain ⟨A2, cap2, rfl, -, -, -⟩ := id H2.out
      go_enter Try.func9, Try.ntmps9
      go_wp2_with fail
      refine (CP.out _ _ H2.out).mono ?_
      rintro e w1 ⟨x0, rfl, ho, hb⟩
      have H_1 := Lib.hid (H.out.ext hb)
      have H2_1 := Lib.hid (H2.out.ext hb)
      have X_1 := Lib.hid (Sl.of_own ho)
      have B_1 := Lib.hid hb
      clear hb ho H H2
      have HCC := Lib.hid (CI.out _ _ X_1.out)
      go_wp2_with fail
      refine (HCC.out).mono ?_
      rintro e w2 ⟨x2, rfl, ho, hb⟩
      have H_2 := Lib.hid (H_1.out.ext hb)
      have H2_2 := Lib.hid (H2_1.out.ext hb)
      have V_2 := Lib.hid (Sl.of_own ho)
      have B_2 := Lib.hid (B_1.out.trans (hb.mono B_1.out.size))
      clear hb ho X_1 H_1 H2_1 B_1
      clear HCC CI
      go_wp2_with fail
      refine (CO.out _ _ H_2.out).mono ?_
      rintro e w3 ⟨x3, rfl, ho, hb⟩
      have H_3 := Lib.hid (H_2.out.ext hb)
      have H2_3 := Lib.hid (H2_2.out.ext hb)
      have V_3 := Lib.hid (V_2.out.ext hb)
      have L_3 := Lib.hid (Sl.of_own ho)
      have B_3 := Lib.hid (B_2.out.trans (hb.mono B_2.out.size))
      clear hb ho H_2 H2_2 V_2 B_2
      go_wp2_with fail
      refine (CP.out _ _ H2_3.out).mono ?_
      rintro e w4 ⟨x4, rfl, ho, hb⟩
      have H_4 := Lib.hid (H_3.out.ext hb)
      have H2_4 := Lib.hid (H2_3.out.ext hb)
      have V_4 := Lib.hid (V_3.out.ext hb)
      have L_4 := Lib.hid (L_3.out.ext hb)
      have D_4 := Lib.hid (Sl.of_own ho)
      have B_4 := Lib.hid (B_3.out.trans (hb.mono B_3.out.size))
      clear hb ho H_3 H2_3 V_3 L_3 B_3
      have HCC := Lib.hid (C0.out _ _ _ L_4.out D_4.out)
      go_wp2_with fail
      refine (HCC.out).mono ?_
      rintro e w5 ⟨x5, rfl, ho, hb⟩
      have H_5 := Lib.hid (H_4.out.ext hb)
      have H2_5 := Lib.hid (H2_4.out.ext hb)
      have V_5 := Lib.hid (V_4.out.ext hb)
      have Y_5 := Lib.hid (Sl.of_own ho)
      have B_5 := Lib.hid (B_4.out.trans (hb.mono B_4.out.size))
      clear hb ho L_4 D_4 H_4 H2_4 V_4 B_4
      clear HCC C0 CO CP
      have HCC := Lib.hid (B0.out _ _ _ Y_5.out V_5.out)
      go_wp2_with fail
      refine (HCC.out).mono ?_
      rintro e w6 ⟨x9, rfl, ho, hb⟩
      have H_6 := Lib.hid (H_5.out.ext hb)
      have H2_6 := Lib.hid (H2_5.out.ext hb)
      have U_6 := Lib.hid (Sl.of_own ho)
      have B_6 := Lib.hid (B_5.out.trans (hb.mono B_5.out.size))
      clear hb ho Y_5 V_5 H_5 H2_5 B_5
      clear HCC B0
      have R9 := U_6.out
      obtain ⟨AU, cU, e5, -⟩ := id R9
      rw [hlX.out] at e5
      subst e5
      have RU := Lib.hid R9
      clear R9
      go_wp2_with fail
      have hB := B_6.out
      have hw : w.heap.size ≤ w6.heap.size := hB.size
      have HR := Lib.hid (World.rowIs_made w6 (.bool false) (s.length + 1) 4)
      have HG := Lib.hid (show Below w6.heap.size w6 (w6.alloc (.cells (madeCells #[.bool false] (s.length + 1)) 4)) from (Below.refl _ _).alloc (Nat.le_refl _) _)
      generalize w6.alloc (.cells (madeCells #[.bool false] (s.length + 1)) 4) = W1 at *
      go_loopw [13, 14] (fun vat vi wr => ∃ i at_ : Nat, i ≤ d.length ∧ vi = .int .i64 i ∧ vat = .int .i64 at_ ∧ at_ ≤ s.length ∧ Hid ((at_ : Int) = inL (d.take i)) ∧ Hid (wr.rowIs w6.heap.size 4 (s.length + 1) (fun x : Nat => .bool (kfB (d.take i) x))) ∧ Hid (Below w6.heap.size w6 wr)) (fun _ i _ => d.length - (intOf i).toNat)
      case atStart => exact ⟨0, 0, by omega, rfl, rfl, by omega, Lib.hid rfl, Lib.hid (HR.out.congr fun i hi => rfl), HG⟩
      case round =>
        obtain ⟨i, at_, hi, rfl, rfl, hat, hA, hR, hBi⟩ := hrel
        by_cases hlt : i < d.length
        · obtain ⟨⟨N, hN⟩, v1, v2, v3⟩ := HV.out i hlt
          have hcell : ∀ W, Below w6.heap.size w6 W → ∃ b off, A2 = some ⟨b, off, none⟩ ∧ W.cell? ⟨b, off + i * 3, none⟩ = some (.int .u8 d[i].k) ∧ W.cell? ⟨b, off + i * 3 + 1, none⟩ = some (.int .i64 N) := fun W hW => by
            obtain ⟨b, off, cap', hv, hb, c0, c1, c2⟩ := (H2_6.out.ext hW).pc hlt
            rw [hN] at c1
            injection hv with e1 e2 e3
            exact ⟨b, off, e1, c0, c1⟩
          have HCELL := Lib.hid hcell
          obtain ⟨b, off, rfl, -, -⟩ := hcell _ hBi.out
          have hatN : at_ + N ≤ s.length := by have := hA.out; omega
          have hk1 := fun x => HK.out i hlt x N hN
          have HK1 := Lib.hid hk1
          have hA1 := Lib.hid (show ((at_ + N : Nat) : Int) = inL (d.take (i + 1)) by have := hA.out; omega)
          have hii : (i : Int) < (d.length : Int) := by omega
          clear hcell hk1 v1 v2 v3 hN
          generalize d[i].k = kk at *
          go_wp2_with fail
          go_loopw [15] (fun y wr => ∃ k : Nat, k ≤ N ∧ y = .int .i64 k ∧ Hid (wr.rowIs w6.heap.size 4 (s.length + 1) (fun x : Nat => .bool (if at_ ≤ x ∧ x < at_ + k then kk == 1 else kfB (d.take i) x))) ∧ Hid (Below w6.heap.size w6 wr)) (fun y _ => N - (intOf y).toNat)
          case atStart => exact ⟨0, by omega, rfl, Lib.hid (hR.out.congr fun x hx => by rw [if_neg (by omega)]), hBi⟩
          case round =>
            clear hR hBi
            obtain ⟨k, hk, rfl, hR, hBi⟩ := hrel
            obtain ⟨b', off', e, c0, c1⟩ := HCELL.out _ hBi.out
            obtain ⟨rfl, rfl⟩ : b = b' ∧ off = off' := by injection e with e; injection e with e1 e2; exact ⟨e1, e2⟩
            by_cases hlk : k < N
            · have g1 : (k : Int) < (N : Int) := by omega
              have g2 : (at_ : Int) + (k : Int) < (s.length : Int) := by omega
              have g3 : (0 : Int) ≤ (at_ : Int) + (k : Int) := by omega
              have g4 : ((at_ : Int) + (k : Int)).toNat = at_ + k := by omega
              have g5 : (at_ : Int) + (k : Int) < (s.length : Int) + 1 := by omega
              have g6 : at_ + k < s.length + 1 := by omega
              have gw : IntKind.i64.wrap ((at_ : Int) + (k : Int)) = (at_ : Int) + (k : Int) := by rw [IntKind.wrap_i64]; omega
              have r0 := hR.out.cell (i := at_ + k) (by omega)
              have r1 := hR.out.frozen (at_ + k)
              rw [if_neg (by omega)] at r0
              have hR' := Lib.hid ((hR.out.set (at_ + k) (.bool (kk == 1))).congr (g := fun x => .bool (if at_ ≤ x ∧ x < at_ + (k + 1) then kk == 1 else kfB (d.take i) x)) (fun x _ => by
                by_cases e : x = at_ + k
                · rw [if_pos e, if_pos (by omega)]
                · rw [if_neg e]
                  by_cases q : at_ ≤ x ∧ x < at_ + k
                  · rw [if_pos q, if_pos (by omega)]
                  · rw [if_neg q, if_neg (by omega)]))
              have hB' := Lib.hid (hBi.out.setCell (p := ⟨w6.heap.size, at_ + k, none⟩) (Nat.le_refl _) (.bool (kk == 1)))
              clear hR hBi e
              go_wp2_with fail
              go_roundw
              case rel => exact ⟨k + 1, by omega, by go_num, hR', hB'⟩
              case measure => simp [intOf]; omega
            · obtain rfl : k = N := by omega
              have hR' := Lib.hid (hR.out.congr (g := fun x => .bool (kfB (d.take (i + 1)) x)) (fun x _ => by
                rw [HK1.out x, ← hA.out]
                by_cases q : at_ ≤ x ∧ x < at_ + k
                · rw [if_pos q, if_pos (by omega)]
                · rw [if_neg q, if_neg (by omega)]))
              have g2 : (at_ : Int) + (k : Int) ≤ (s.length : Int) := by omega
              clear hR e
              go_wp2_with fail
              go_roundw
              case rel => exact ⟨i + 1, at_ + k, by omega, by go_num, by go_num, by omega, hA1, hR', hBi⟩
              case measure => simp [intOf]; omega
        · obtain rfl : i = d.length := by omega
          rw [List.take_length] at hR
          clear HR HG HV HK hA
          go_wp2_with fail
          go_loopw [16] (fun y wr => ∃ k : Nat, k ≤ l.length ∧ y = .int .i64 k ∧ Hid (wr.rowIs w6.heap.size 4 (s.length + 1) (fun x : Nat => .bool (kfB d x))) ∧ Hid (Below w6.heap.size w6 wr)) (fun y _ => l.length - (intOf y).toNat)
          case atStart => exact ⟨0, by omega, rfl, hR, hBi⟩
          case round =>
            clear hR hBi
            obtain ⟨i, hi, rfl, hR, hBi⟩ := hrel
            by_cases hlt : i < l.length
            · obtain ⟨b, off, rfl⟩ := H_6.out.base3R (by omega)
              obtain ⟨b5, off5, rfl⟩ := RU.out.base3R (by have := hlX.out; omega)
              obtain ⟨c0, c1, c2⟩ := (H_6.out.ext hBi.out).cells3R hlt
              obtain ⟨u0, u1, u2⟩ := (RU.out.ext hBi.out).cellsTTR hlt
              have hii : (i : Int) < (l.length : Int) := by omega
              obtain ⟨a0, an, hg, hF0, hF1⟩ := HF.out i hlt
              have hb5 : b5 < wr.heap.size := World.block_lt_of_cell? wr _ u1
              have n1 : ¬ wr.heap.size = b5 := by omega
              have hbk := hR.out.lt
              have n2 : ¬ wr.heap.size = w6.heap.size := by omega
              clear u0 u2
              generalize posV (inverseS s d) (posV d l[i].a l[i].g) l[i].g = u at *
              generalize l[i] = m at *
              obtain ⟨id, a, g⟩ := m
              simp only at c0 c1 c2 hg hF0 hF1 a0 an
              obtain ⟨aN, rfl⟩ := Int.eq_ofNat_of_zero_le a0
              have an' : aN ≤ s.length := by omega
              have hra := hR.out.cell (i := aN) (by omega)
              have an2 : (aN : Int) < (s.length : Int) + 1 := by omega
              have a9 : decide ((aN : Int) < 0) = false := decide_eq_false (by omega)
              have a8 : decide ((s.length : Int) < (aN : Int)) = false := decide_eq_false (by omega)
              rcases hg with rfl | rfl
              · obtain ⟨hu, hu0, huk⟩ := hF0 rfl
                have d3 := decide_eq_false (Int.not_lt.2 hu)
                clear hF0 hF1
                by_cases hz : aN = 0
                · subst hz
                  have hub : (u == 0) = true := by rw [hu0 rfl]; simp
                  have d3 : decide ((0 : Int) < u) = false := d3
                  have hra : wr.cell? _ = _ := hra
                  clear huk hu0
                  by_cases hs0 : s.length = 0
                  · have q0 : ((0 : Int) == (s.length : Int)) = true := by rw [hs0]; rfl
                    clear hs0
                    go_wp2_with fail
                    go_quiet (fail)
                    go_wp2_with fail
                    go_roundw
                    case rel => exact ⟨i + 1, by omega, by go_num, Lib.hid ((hR.out.alloc _).of_block rfl), Lib.hid (below_drewN (hBi.out.alloc hBi.out.size _) _)⟩
                    case measure => simp [intOf]; omega
                  · have q0 : ((0 : Int) == (s.length : Int)) = false := by simp; omega
                    clear hs0
                    go_wp2_with fail
                    go_quiet (fail)
                    go_wp2_with fail
                    go_roundw
                    case rel => exact ⟨i + 1, by omega, by go_num, Lib.hid ((hR.out.alloc _).of_block rfl), Lib.hid (below_drewN (hBi.out.alloc hBi.out.size _) _)⟩
                    case measure => simp [intOf]; omega
                · obtain ⟨k, hk⟩ : ∃ k, aN = k + 1 := ⟨aN - 1, by omega⟩
                  have hub := huk k (by omega)
                  have hrk := hR.out.cell (i := k) (by omega)
                  have k1 : (aN : Int) - 1 = (k : Int) := by omega
                  have k2 : (k : Int) < (s.length : Int) + 1 := by omega
                  have k3 : ((aN : Int) == 0) = false := by simp; omega
                  generalize kfB d k = B at *
                  clear huk hu0 hz hk
                  by_cases hs0 : aN = s.length
                  · have q0 : ((aN : Int) == (s.length : Int)) = true := by rw [hs0]; simp
                    clear hs0
                    go_wp2_with fail
                    go_quiet (fail)
                    go_wp2_with fail
                    go_roundw
                    case rel => exact ⟨i + 1, by omega, by go_num, Lib.hid ((hR.out.alloc _).of_block rfl), Lib.hid (below_drewN (hBi.out.alloc hBi.out.size _) _)⟩
                    case measure => simp [intOf]; omega
                  · have q0 : ((aN : Int) == (s.length : Int)) = false := by simp; omega
                    clear hs0
                    go_wp2_with fail
                    go_quiet (fail)
                    go_wp2_with fail
                    go_roundw
                    case rel => exact ⟨i + 1, by omega, by go_num, Lib.hid ((hR.out.alloc _).of_block rfl), Lib.hid (below_drewN (hBi.out.alloc hBi.out.size _) _)⟩
                    case measure => simp [intOf]; omega
              · obtain ⟨hu, hun, huk⟩ := hF1 rfl
                have d3 := decide_eq_false (Int.not_lt.2 hu)
                clear hF0 hF1
                by_cases hs0 : aN = s.length
                · have hub : (u == (aN : Int)) = true := by rw [hun (by omega)]; simp
                  have q0 : ((aN : Int) == (s.length : Int)) = true := by rw [hs0]; simp
                  clear hs0 huk hun
                  go_wp2_with fail
                  go_quiet (fail)
                  go_wp2_with fail
                  go_roundw
                  case rel => exact ⟨i + 1, by omega, by go_num, Lib.hid ((hR.out.alloc _).of_block rfl), Lib.hid (below_drewN (hBi.out.alloc hBi.out.size _) _)⟩
                  case measure => simp [intOf]; omega
                · have hub := huk aN rfl (by omega)
                  have q0 : ((aN : Int) == (s.length : Int)) = false := by simp; omega
                  generalize kfB d aN = B at *
                  clear hs0 huk hun
                  go_wp2_with fail
                  go_quiet (fail)
                  go_wp2_with fail
                  go_roundw
                  case rel => exact ⟨i + 1, by omega, by go_num, Lib.hid ((hR.out.alloc _).of_block rfl), Lib.hid (below_drewN (hBi.out.alloc hBi.out.size _) _)⟩
                  case measure => simp [intOf]; omega
            · go_wp2_with fail
              refine (known9_any _).mono ?_
              rintro e w99 ⟨rfl, hb⟩
              have B9 := Lib.hid ((hB.trans (hBi.out.mono hw)).trans (hb.mono (Nat.le_trans hw hBi.out.size)))
              clear hb
              go_wp2
              go_ret
              exact ⟨rfl, B9.out⟩

end Go.Proofs.Ytibmnkdeepmabaa
