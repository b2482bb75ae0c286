/- quartolaw09.MarkSets returns true: the walk. -/
import Derived.Test.YtibmnkdeepmabaaKnown9
import Derived.Test.YtibmnkdeepmabaaRef9c
namespace Go.Proofs.Ytibmnkdeepmabaa
open Go.RowKit

/-- a mark in a block of its own -/
structure BoxAt (b : Nat) (m : Mk) (W : World) : Prop where
  lt : b < W.heap.size
  c0 : W.cell? ⟨b, 0, none⟩ = some (.int .u32 m.id)
  c1 : W.cell? ⟨b, 1, none⟩ = some (.int .i64 m.a)
  c2 : W.cell? ⟨b, 2, none⟩ = some (.int .u8 m.g)
theorem BoxAt.ext {b : Nat} {m : Mk} {W W' : World} (h : BoxAt b m W) (hb : Below W.heap.size W W') : BoxAt b m W' :=
  ⟨Nat.lt_of_lt_of_le h.lt hb.size, (hb.cell (p := ⟨b, 0, none⟩) h.lt).trans h.c0, (hb.cell (p := ⟨b, 1, none⟩) h.lt).trans h.c1, (hb.cell (p := ⟨b, 2, none⟩) h.lt).trans h.c2⟩
theorem BoxAt.new (w : World) (m : Mk) (t : TypeId) : BoxAt w.heap.size m (w.alloc (.cells #[.int .u32 m.id, .int .i64 m.a, .int .u8 m.g] t)) :=
  ⟨by simp, (box3 w m t).1, (box3 w m t).2.1, (box3 w m t).2.2⟩
theorem own_max {W : World} {B n : Nat} {e : TypeId} {v : Value} {xs : List Value} (h : W.ownsRow B e 3 v n xs) : n ≤ 9223372036854775807 := by
  rcases own_forms9 h with ⟨-, h0⟩ | ⟨g, cap, -, h1, h2⟩
  · omega
  · unfold maxLen at h2; omega
/-- a row of the call's own -/
structure OwnM (B : Nat) (v : Value) (n : Nat) (L : List Mk) (W : World) : Prop where
  own : W.ownsRow B 32 3 v n (mkE.flat L)
theorem OwnM.ext {B : Nat} {v : Value} {n : Nat} {L : List Mk} {W W' : World} (h : OwnM B v n L W) (hb : Below W.heap.size W W') : OwnM B v n L W' := ⟨own_ext h.own hb⟩
theorem OwnM.sl {B : Nat} {v : Value} {n : Nat} {L : List Mk} {W : World} (h : OwnM B v n L W) : Sl mkE W v L := Sl.of_own h.own
theorem OwnM.len {B : Nat} {v : Value} {n : Nat} {L : List Mk} {W : World} (h : OwnM B v n L W) : L.length = n := by
  have := h.own.1
  rw [mkE.flat_len] at this
  have e : L.length * 3 = n * 3 := this
  omega
theorem OwnM.put {B g n c : Nat} {L : List Mk} {W : World} (h : OwnM B (.slice (some ⟨g, 0, none⟩) n c) n L W) (k : Nat) (m : Mk) :
    OwnM B (.slice (some ⟨g, 0, none⟩) n c) n (L.set k m) (((W.setCell ⟨g, k * 3, none⟩ (.int .u32 m.id)).setCell ⟨g, k * 3 + 1, none⟩ (.int .i64 m.a)).setCell ⟨g, k * 3 + 2, none⟩ (.int .u8 m.g)) := ⟨own_put3 h.own k m⟩
theorem OwnM.low {B n : Nat} {v : Value} {L : List Mk} {W : World} (h : OwnM B v n L W) {g : Nat} (hg : g < B) (k : Nat) (x y z : Value) :
    OwnM B v n L (((W.setCell ⟨g, k * 3, none⟩ x).setCell ⟨g, k * 3 + 1, none⟩ y).setCell ⟨g, k * 3 + 2, none⟩ z) :=
  ⟨ownsRow_setCell_below (ownsRow_setCell_below (ownsRow_setCell_below h.own (a := ⟨g, k * 3, none⟩) hg x) (a := ⟨g, k * 3 + 1, none⟩) hg y) (a := ⟨g, k * 3 + 2, none⟩) hg z⟩
theorem below_put {B g : Nat} {w W : World} (h : Below B w W) (hg : B ≤ g) (k : Nat) (x y z : Value) : Below B w (((W.setCell ⟨g, k * 3, none⟩ x).setCell ⟨g, k * 3 + 1, none⟩ y).setCell ⟨g, k * 3 + 2, none⟩ z) :=
  ((h.setCell (p := ⟨g, k * 3, none⟩) hg x).setCell (p := ⟨g, k * 3 + 1, none⟩) hg y).setCell (p := ⟨g, k * 3 + 2, none⟩) hg z
theorem OwnM.at {B g n c : Nat} {L : List Mk} {W : World} (h : OwnM B (.slice (some ⟨g, 0, none⟩) n c) n L W) {k : Nat} (hk : k < n) : ∃ m : Mk, W.cell? ⟨g, k * 3, none⟩ = some (.int .u32 m.id) ∧ W.cell? ⟨g, k * 3 + 1, none⟩ = some (.int .i64 m.a) ∧ W.cell? ⟨g, k * 3 + 2, none⟩ = some (.int .u8 m.g) ∧ ∀ j, W.frozen? ⟨g, j, none⟩ = false := by
  have hl := h.len
  obtain ⟨b', off', cap', hv, -, c0, c1, c2⟩ := h.sl.mk3 (k := k) (by omega)
  obtain ⟨rfl, rfl⟩ : g = b' ∧ 0 = off' := by injection hv with e1 e2 e3; injection e1 with e1; injection e1 with e1 e2; exact ⟨e1, e2⟩
  rw [Nat.zero_add] at c0 c1 c2
  exact ⟨_, c0, c1, c2, h.own.frozenAt⟩

set_option maxHeartbeats 8000000 in
set_option maxRecDepth 100000 in
theorem lawMarkSets_any (v : Value) (l : List Mk) (m : Mk) (d : Int) (w : World) (h : Sl mkE w v l) (hd : ∀ m, m ∈ l → m.wf) (hl : l.length * 24 ≤ 140737488355328) (hm : m.wf) (_hd : 0 ≤ d) (_hd' : d ≤ 4294967295) :
    Calls Try.prog 4 #[v, m.v, .int .u32 d] w fun e w' => e = .returned (.bool true) ∧ Below w.heap.size w w' := by
  have cO := fun w x h => own9_any x l w h hl
  have cRS := fun w x h => refSet_any x l m w h hd hm
  have cRD := fun w x h => refDrop_any x l d w h hd
  have cS := fun w x h => set_any x l m w h hd hm
  have cD := fun w x h => drop_any x l d w h hd
  have cF := fun w x h => find9_any x l d w h
  have cRF := fun w x h => refFind9_any x l d w h
  have cT := fun w x y h k => same9_any x y l l w h k
  have cT1 := fun w x y h k => same9_any x y (setV l m) (setV l m) w h k
  have cT2 := fun w x y h k => same9_any x y (drpV l d) (drpV l d) w h k
  rw [sameM_refl] at cT cT1 cT2
  have K := Lib.hid (BoxAt.new w m 32)
  generalize setV l m = SV at *
  generalize drpV l d = DV at *
  generalize setE l m = SE at *
  generalize drpE l d = DE at *
  generalize fndR d l = fm at *
  generalize fndB d l = fb at *
  obtain ⟨i, a, g⟩ := m
  obtain ⟨fi, fa, fg⟩ := fm
  unfold Mk.v at *
  simp only at *
  have H := Lib.hid (h.alloc (.cells #[.int .u32 i, .int .i64 a, .int .u8 g] 32)); have CO := Lib.hid cO; have CRS := Lib.hid cRS; have CRD := Lib.hid cRD; have CS := Lib.hid cS; have CD := Lib.hid cD; have CF := Lib.hid cF; have CRF := Lib.hid cRF; have CT := Lib.hid cT; have CT1 := Lib.hid cT1; have CT2 := Lib.hid cT2
  clear cO cRS cRD cS cD cF cRF cT cT1 cT2 h hd hl hm
  go_enter Try.func4, Try.ntmps4
  go_wp2_with fail
  refine (CO.out _ _ H.out).mono ?_
  rintro e w1 ⟨x0, rfl, ho, hb⟩
  have H_1 := Lib.hid (H.out.ext hb)
  have K_1 := Lib.hid (K.out.ext hb)
  have X_1 := Lib.hid (Sl.of_own ho)
  have B_1 := Lib.hid hb
  clear hb ho H K
  have k0 := K_1.out.c0; have k1 := K_1.out.c1; have k2 := K_1.out.c2
  simp only at k0 k1 k2
  go_wp2_with fail
  refine (CRS.out _ _ H_1.out).mono ?_
  rintro e w2 ⟨x1, rfl, ho, hb⟩
  have H_2 := Lib.hid (H_1.out.ext hb)
  have K_2 := Lib.hid (K_1.out.ext hb)
  have X_2 := Lib.hid (X_1.out.ext hb)
  have T_2 := Lib.hid (Sl.of_own ho)
  have B_2 := Lib.hid (B_1.out.trans (hb.mono B_1.out.size))
  clear hb ho H_1 K_1 X_1 B_1
  clear k0 k1 k2
  go_wp2_with fail
  refine (CRD.out _ _ H_2.out).mono ?_
  rintro e w3 ⟨x2, rfl, ho, hb⟩
  have H_3 := Lib.hid (H_2.out.ext hb)
  have K_3 := Lib.hid (K_2.out.ext hb)
  have X_3 := Lib.hid (X_2.out.ext hb)
  have T_3 := Lib.hid (T_2.out.ext hb)
  have R_3 := Lib.hid (Sl.of_own ho)
  have B_3 := Lib.hid (B_2.out.trans (hb.mono B_2.out.size))
  clear hb ho H_2 K_2 X_2 T_2 B_2
  clear CRS CRD CO
  go_wp2_with fail
  have hB := B_3.out
  go_loopw [12] (fun y wr => ∃ j : Nat, j ≤ 2 ∧ y = .int .i64 j ∧ Hid (Below w3.heap.size w3 wr)) (fun y _ => 2 - (intOf y).toNat)
  case atStart => exact ⟨0, by omega, rfl, Lib.hid (Below.refl _ _)⟩
  case round =>
    obtain ⟨j, hj, rfl, hBj⟩ := hrel
    by_cases hlt : j < 2
    · obtain ⟨W5, hW5⟩ : ∃ W5, W5 = wr := ⟨_, rfl⟩
      subst hW5
      have hji : (j : Int) < 2 := by omega
      have Hr := Lib.hid (H_3.out.ext hBj.out)
      have Kr := Lib.hid (K_3.out.ext hBj.out)
      have Xr := Lib.hid (X_3.out.ext hBj.out)
      have Tr := Lib.hid (T_3.out.ext hBj.out)
      have Rr := Lib.hid (R_3.out.ext hBj.out)
      have k0 := Kr.out.c0; have k1 := Kr.out.c1; have k2 := Kr.out.c2
      simp only at k0 k1 k2
      have Xr0 := Xr; have Hr0 := Hr; have Rr0 := Rr
      go_wp2_with fail
      refine (CS.out _ _ Xr.out).mono ?_
      rintro e w1 ⟨x3, rfl, hG, hb⟩
      have H_1 := Lib.hid (Hr.out.ext hb)
      have K_1 := Lib.hid (Kr.out.ext hb)
      have X_1 := Lib.hid (Xr.out.ext hb)
      have T_1 := Lib.hid (Tr.out.ext hb)
      have R_1 := Lib.hid (Rr.out.ext hb)
      have G_1 := Lib.hid ((⟨hG⟩ : OwnM _ _ _ _ _))
      have B_1 := Lib.hid hb
      clear hb Hr Kr Xr Tr Rr
      clear k0 k1 k2
      obtain ⟨AG, cG, rfl⟩ := own_form w1 (own_zero hG)
      have hgl := fun q hq => (hG.lt q hq).2
      have hSVm := own_max hG
      have HGL := Lib.hid hgl
      have HBASE := Lib.hid (Nat.le_refl W5.heap.size)
      have hws := B_1.out.size
      clear hG hgl
      go_wp2_with fail
      refine (CD.out _ _ X_1.out).mono ?_
      rintro e w2 ⟨x4, rfl, hL, hb⟩
      have H_2 := Lib.hid (H_1.out.ext hb)
      have K_2 := Lib.hid (K_1.out.ext hb)
      have X_2 := Lib.hid (X_1.out.ext hb)
      have T_2 := Lib.hid (T_1.out.ext hb)
      have R_2 := Lib.hid (R_1.out.ext hb)
      have G_2 := Lib.hid (G_1.out.ext hb)
      have D_2 := Lib.hid ((⟨hL⟩ : OwnM _ _ _ _ _))
      have B_2 := Lib.hid (B_1.out.trans (hb.mono B_1.out.size))
      clear hb H_1 K_1 X_1 T_1 R_1 G_1 B_1
      obtain ⟨AD, cD, rfl⟩ := own_form w2 (own_zero hL)
      have hDVm := own_max hL
      clear hL
      go_wp2_with fail
      refine (CT1.out _ _ _ (G_2.out).sl T_2.out).mono ?_
      rintro e w3 ⟨rfl, hb⟩
      have H_3 := Lib.hid (H_2.out.ext hb)
      have K_3 := Lib.hid (K_2.out.ext hb)
      have X_3 := Lib.hid (X_2.out.ext hb)
      have T_3 := Lib.hid (T_2.out.ext hb)
      have R_3 := Lib.hid (R_2.out.ext hb)
      have G_3 := Lib.hid (G_2.out.ext hb)
      have D_3 := Lib.hid (D_2.out.ext hb)
      have B_3 := Lib.hid (B_2.out.trans (hb.mono B_2.out.size))
      clear hb H_2 K_2 X_2 T_2 R_2 G_2 D_2 B_2
      go_wp2_with fail
      refine (CT2.out _ _ _ (D_3.out).sl R_3.out).mono ?_
      rintro e w4 ⟨rfl, hb⟩
      have H_4 := Lib.hid (H_3.out.ext hb)
      have K_4 := Lib.hid (K_3.out.ext hb)
      have X_4 := Lib.hid (X_3.out.ext hb)
      have T_4 := Lib.hid (T_3.out.ext hb)
      have R_4 := Lib.hid (R_3.out.ext hb)
      have G_4 := Lib.hid (G_3.out.ext hb)
      have D_4 := Lib.hid (D_3.out.ext hb)
      have B_4 := Lib.hid (B_3.out.trans (hb.mono B_3.out.size))
      clear hb H_3 K_3 X_3 T_3 R_3 G_3 D_3 B_3
      go_wp2_with fail
      have BW := B_4
      have HG9 := G_4
      have HD9 := D_4
      go_loopw [17] (fun y ws => ∃ (k : Nat) (L2 : List Mk), k ≤ SV.length ∧ y = .int .i64 k ∧ Hid (OwnM W5.heap.size (.slice AG SV.length cG) SV.length L2 ws) ∧ Hid (OwnM w1.heap.size (.slice AD DV.length cD) DV.length DV ws) ∧ Hid (Below W5.heap.size W5 ws)) (fun y _ => SV.length - (intOf y).toNat)
      case atStart => exact ⟨0, _, by omega, rfl, HG9, HD9, BW⟩
      case round =>
        obtain ⟨k, L2, hk, rfl, hG, hO, hBs⟩ := hrel
        by_cases hlt : k < SV.length
        · obtain ⟨g, c', hv, hgB, -⟩ := hG.out.own.form (by omega)
          obtain ⟨rfl, rfl⟩ : AG = some ⟨g, 0, none⟩ ∧ cG = c' := by injection hv with e1 e2 e3; exact ⟨e1, e3⟩
          obtain ⟨mo, g0, g1, g2, fz⟩ := hG.out.at hlt
          have hki : (k : Int) < ((SV.length : Nat) : Int) := by omega
          have HP := Lib.hid (hG.out.put k ⟨77, -5, 0⟩)
          have HQ := Lib.hid (below_put hBs.out (Nat.le_trans HBASE.out hgB) k (.int .u32 77) (.int .i64 (-5)) (.int .u8 0))
          clear hv hG hBs
          go_wp2_with fail
          go_roundw
          case rel => exact ⟨k + 1, _, by omega, by go_num, HP, Lib.hid (hO.out.low (HGL.out _ rfl) k _ _ _), HQ⟩
          case measure => simp [intOf]; omega
        · -- done
          have hO2 := hO
          have BZ := Lib.hid (Hid.out hBs)
          go_wp2_with fail
          refine (CT2.out _ _ _ hO2.out.sl (Rr0.out.ext BZ.out)).mono ?_
          rintro e wy ⟨rfl, hb⟩
          have HD10 := Lib.hid (hO2.out.ext hb)
          have BW := Lib.hid (BZ.out.trans (hb.mono BZ.out.size))
          have HBASE := Lib.hid (show W5.heap.size ≤ w1.heap.size from hws)
          clear hb BZ hO hO2 hG hBs
          go_wp2_with fail
          go_loopw [18] (fun y ws => ∃ (k : Nat) (L2 : List Mk), k ≤ DV.length ∧ y = .int .i64 k ∧ Hid (OwnM w1.heap.size (.slice AD DV.length cD) DV.length L2 ws) ∧ Hid (Below W5.heap.size W5 ws)) (fun y _ => DV.length - (intOf y).toNat)
          case atStart => exact ⟨0, _, by omega, rfl, HD10, BW⟩
          case round =>
            obtain ⟨k, L2, hk, rfl, hG, hBs⟩ := hrel
            by_cases hlt : k < DV.length
            · obtain ⟨g, c', hv, hgB, -⟩ := hG.out.own.form (by omega)
              obtain ⟨rfl, rfl⟩ : AD = some ⟨g, 0, none⟩ ∧ cD = c' := by injection hv with e1 e2 e3; exact ⟨e1, e3⟩
              obtain ⟨mo, g0, g1, g2, fz⟩ := hG.out.at hlt
              have hki : (k : Int) < ((DV.length : Nat) : Int) := by omega
              have HP := Lib.hid (hG.out.put k ⟨78, -6, 0⟩)
              have HQ := Lib.hid (below_put hBs.out (Nat.le_trans HBASE.out hgB) k (.int .u32 78) (.int .i64 (-6)) (.int .u8 0))
              clear hv hG hBs
              go_wp2_with fail
              go_roundw
              case rel => exact ⟨k + 1, _, by omega, by go_num, HP, HQ⟩
              case measure => simp [intOf]; omega
            · -- done
              have BZ := Lib.hid ((Hid.out hBs))
              go_wp2_with fail
              refine (CT.out _ _ _ (Xr0.out.ext BZ.out) (Hr0.out.ext BZ.out)).mono ?_
              rintro e wz ⟨rfl, hb⟩
              have BZ2 := Lib.hid (hBj.out.trans ((BZ.out.trans (hb.mono BZ.out.size)).mono hBj.out.size))
              clear hb BZ
              go_wp2_with fail
              go_roundw
              case rel => exact ⟨j + 1, by omega, by go_num, BZ2⟩
              case measure => simp [intOf]; omega
    · have hjn : ¬ (j : Int) < 2 := by omega
      have Hz := Lib.hid (H_3.out.ext hBj.out)
      have Xz := Lib.hid (X_3.out.ext hBj.out)
      have Bz := Lib.hid (hB.trans (hBj.out.mono hB.size))
      go_wp2_with fail
      refine (CF.out _ _ Xz.out).mono ?_
      rintro e w51 ⟨rfl, hb⟩
      have H_51 := Lib.hid (Hz.out.ext hb)
      have X_51 := Lib.hid (Xz.out.ext hb)
      have B_51 := Lib.hid (Bz.out.trans (hb.mono Bz.out.size))
      clear hb Hz Xz Bz
      have H_a1 := Lib.hid (H_51.out.alloc (.cells #[.int .u32 fi, .int .i64 fa, .int .u8 fg] 32))
      have X_a1 := Lib.hid (X_51.out.alloc (.cells #[.int .u32 fi, .int .i64 fa, .int .u8 fg] 32))
      have B_a1 := Lib.hid (B_51.out.alloc B_51.out.size (.cells #[.int .u32 fi, .int .i64 fa, .int .u8 fg] 32))
      clear H_51 X_51 B_51
      have Y1 := Lib.hid (BoxAt.new w51 ⟨fi, fa, fg⟩ 32)
      go_wp2_with fail
      refine (CRF.out _ _ H_a1.out).mono ?_
      rintro e w52 ⟨rfl, hb⟩
      have H_52 := Lib.hid (H_a1.out.ext hb)
      have X_52 := Lib.hid (X_a1.out.ext hb)
      have Y_52 := Lib.hid (Y1.out.ext hb)
      have B_52 := Lib.hid (B_a1.out.trans (hb.mono B_a1.out.size))
      clear hb H_a1 X_a1 Y1 B_a1
      have yb := Y_52.out.lt
      have Y2 := Lib.hid (BoxAt.ext Y_52.out (((Below.refl _ w52).alloc (Nat.le_refl _) (.cells #[.int .u32 fi, .int .i64 fa, .int .u8 fg] 32))))
      clear Y_52
      have H_a2 := Lib.hid (H_52.out.alloc (.cells #[.int .u32 fi, .int .i64 fa, .int .u8 fg] 32))
      have X_a2 := Lib.hid (X_52.out.alloc (.cells #[.int .u32 fi, .int .i64 fa, .int .u8 fg] 32))
      have B_a2 := Lib.hid (B_52.out.alloc B_52.out.size (.cells #[.int .u32 fi, .int .i64 fa, .int .u8 fg] 32))
      clear H_52 X_52 B_52
      have y0 := Y2.out.c0; have y1 := Y2.out.c1; have y2 := Y2.out.c2
      simp only at y0 y1 y2
      have hny : ¬ w52.heap.size = w51.heap.size := by omega
      go_wp2_with fail
      refine (CT.out _ _ _ X_a2.out H_a2.out).mono ?_
      rintro e w53 ⟨rfl, hb⟩
      have B_53 := Lib.hid (B_a2.out.trans (hb.mono B_a2.out.size))
      clear hb X_a2 H_a2 B_a2
      go_wp2_with fail
      refine (known9_any _).mono ?_
      rintro e w54 ⟨rfl, hb⟩
      have B_54 := Lib.hid (B_53.out.trans (hb.mono B_53.out.size))
      clear hb B_53
      go_wp2
      go_ret
      exact ⟨rfl, below_one B_54.out⟩

end Go.Proofs.Ytibmnkdeepmabaa
