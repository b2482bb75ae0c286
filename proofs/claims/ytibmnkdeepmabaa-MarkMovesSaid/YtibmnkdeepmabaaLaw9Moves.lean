/- quartolaw09.MarkMoves returns true: the walk. -/
import Derived.Test.YtibmnkdeepmabaaKnown9
import Derived.Test.YtibmnkdeepmabaaPlainM9
namespace Go.Proofs.Ytibmnkdeepmabaa
open Go.RowKit

/-- the cells of a slice of marks whose block is known -/
theorem Sl.base3 {w : World} {A : Option Addr} {n cap : Nat} {l : List Mk} (h : Sl mkE w (.slice A n cap) l) (h0 : 0 < l.length) : ∃ b off, A = some ⟨b, off, none⟩ := by
  obtain ⟨b, off, cap', hv, -⟩ := h.mk3 h0
  injection hv with e1 e2 e3
  exact ⟨b, off, e1⟩
theorem Sl.cells3 {w : World} {b off n cap : Nat} {l : List Mk} (h : Sl mkE w (.slice (some ⟨b, off, none⟩) n cap) l) {k : Nat} (hk : k < l.length) :
    w.cell? ⟨b, off + k * 3, none⟩ = some (.int .u32 l[k].id) ∧ w.cell? ⟨b, off + k * 3 + 1, none⟩ = some (.int .i64 l[k].a) ∧ w.cell? ⟨b, off + k * 3 + 2, none⟩ = some (.int .u8 l[k].g) := by
  obtain ⟨b', off', cap', hv, -, c0, c1, c2⟩ := h.mk3 hk
  obtain ⟨rfl, rfl⟩ : b = b' ∧ off = off' := by injection hv with e1 e2 e3; injection e1 with e1; injection e1 with e1 e2; exact ⟨e1, e2⟩
  exact ⟨c0, c1, c2⟩
theorem Sl.cellsT {w : World} {b off n cap : Nat} {l : List Mk} {d : List Pc} (h : Sl mkE w (.slice (some ⟨b, off, none⟩) n cap) (l.map (shM d))) {k : Nat} (hk : k < l.length) :
    w.cell? ⟨b, off + k * 3, none⟩ = some (.int .u32 l[k].id) ∧ w.cell? ⟨b, off + k * 3 + 1, none⟩ = some (.int .i64 (posV d l[k].a l[k].g)) ∧ w.cell? ⟨b, off + k * 3 + 2, none⟩ = some (.int .u8 l[k].g) := by
  have := h.cells3 (k := k) (by rw [List.length_map]; exact hk)
  rw [List.getElem_map] at this
  exact this

set_option maxHeartbeats 8000000 in
set_option maxRecDepth 100000 in
theorem lawMarkMoves_any (v : Value) (l : List Mk) (v2 : Value) (d : List Pc) (w : World) (h : Sl mkE w v l) (hd : ∀ m, m ∈ l → m.wf) (hl : l.length * 24 ≤ 140737488355328) (h2 : Sl pcE w v2 d) (hd2 : ∀ p, p ∈ d → p.wf) (hl2 : d.length * 32 ≤ 140737488355328) :
    Calls Try.prog 8 #[v, v2] w fun e w' => e = .returned (.bool true) ∧ Below w.heap.size w w' := by
  have cO := fun w x h => own9_any x l w h hl
  have cP := fun w x h => pieces9_any x d w h hl2
  have cC := fun w x y h k => shift_any x y l d w h hd k hd2
  have H := Lib.hid h; have H2 := Lib.hid h2; have CO := Lib.hid cO; have CP := Lib.hid cP
  by_cases he : shE l d = 0
  case neg =>
    rw [shR, if_neg he] at cC
    have hE : (shE l d != 0) = true := by simpa using he
    generalize shE l d = E at *
    have CC := Lib.hid cC
    clear cO cP cC h hd hl h2 hd2 hl2 he
    go_enter Try.func8, Try.ntmps8
    go_wp2_with fail
    refine (CO.out _ _ H.out).mono ?_
    rintro e w1 ⟨x0, rfl, ho, hb⟩
    have H_1 := Lib.hid (H.out.ext hb)
    have H2_1 := Lib.hid (H2.out.ext hb)
    have X_1 := Lib.hid (Sl.of_own ho)
    have B_1 := Lib.hid hb
    clear hb ho H H2
    go_wp2_with fail
    refine (CP.out _ _ H2_1.out).mono ?_
    rintro e w2 ⟨x1, rfl, ho, hb⟩
    have H_2 := Lib.hid (H_1.out.ext hb)
    have H2_2 := Lib.hid (H2_1.out.ext hb)
    have X_2 := Lib.hid (X_1.out.ext hb)
    have Y_2 := Lib.hid (Sl.of_own ho)
    have B_2 := Lib.hid (B_1.out.trans (hb.mono B_1.out.size))
    clear hb ho H_1 H2_1 X_1 B_1
    have HCC := Lib.hid (CC.out _ _ _ X_2.out Y_2.out)
    go_wp2_with fail
    refine (HCC.out).mono ?_
    rintro e w3 ⟨x2, rfl, ho, hb⟩
    have H_3 := Lib.hid (H_2.out.ext hb)
    have H2_3 := Lib.hid (H2_2.out.ext hb)
    have R_3 := Lib.hid (Sl.of_own ho)
    have B_3 := Lib.hid (B_2.out.trans (hb.mono B_2.out.size))
    clear hb ho X_2 Y_2 H_2 H2_2 B_2
    obtain ⟨A5, c5, e5, -⟩ := R_3.out
    subst e5
    go_wp2_with fail
    refine (known9_any _).mono ?_
    rintro e w4 ⟨rfl, hb⟩
    have B_4 := Lib.hid (B_3.out.trans (hb.mono B_3.out.size))
    clear hb R_3 H_3 H2_3 B_3
    go_wp2
    go_ret
    exact ⟨rfl, B_4.out⟩
  case pos =>
    obtain ⟨h0, hc, hr⟩ := sh_of he
    rw [hr, he] at cC
    have hLen := fun w x h => lengths_any x d w h hd2
    rw [lensV_ok h0] at hLen
    have cT := fun w x h => mcheck_any (outL d) x (l.map (shM d)) w h (sh_wf h0 hc hd)
    rw [sh_set h0 hc hd] at cT
    have cO2 := fun w x h => own9_any x (l.map (shM d)) w h (by rw [List.length_map]; exact hl)
    have hord : ∀ i k (hi : i < l.length) (hk : k < l.length), l[i].a ≤ l[k].a → l[i].g ≤ l[k].g → posV d l[i].a l[i].g ≤ posV d l[k].a l[k].g := fun i k hi hk => sh_ord h0 hc hd (List.getElem_mem hi) (List.getElem_mem hk)
    have CC := Lib.hid cC; have CL := Lib.hid hLen; have CT := Lib.hid cT; have CO2 := Lib.hid cO2; have HO := Lib.hid hord
    have hlenT := Lib.hid ((List.length_map (shM d) : (l.map (shM d)).length = l.length))
    have hl64 : l.length ≤ 64 := ((chkM_zero _ _).1 hc).len
    clear cO cP cC h hd hl h2 hd2 hl2 he h0 hc hr hLen cT cO2 hord
    obtain ⟨A, cap, rfl, -, -, -⟩ := id H.out
    obtain ⟨A2, cap2, rfl, -, -, -⟩ := id H2.out
    go_enter Try.func8, Try.ntmps8
    go_wp2_with fail
    refine (CO.out _ _ H.out).mono ?_
    rintro e w1 ⟨x0, rfl, ho, hb⟩
    have H_1 := Lib.hid (H.out.ext hb)
    have H2_1 := Lib.hid (H2.out.ext hb)
    have X_1 := Lib.hid (Sl.of_own ho)
    have B_1 := Lib.hid hb
    clear hb ho H H2
    go_wp2_with fail
    refine (CP.out _ _ H2_1.out).mono ?_
    rintro e w2 ⟨x1, rfl, ho, hb⟩
    have H_2 := Lib.hid (H_1.out.ext hb)
    have H2_2 := Lib.hid (H2_1.out.ext hb)
    have X_2 := Lib.hid (X_1.out.ext hb)
    have Y_2 := Lib.hid (Sl.of_own ho)
    have B_2 := Lib.hid (B_1.out.trans (hb.mono B_1.out.size))
    clear hb ho H_1 H2_1 X_1 B_1
    have HCC := Lib.hid (CC.out _ _ _ X_2.out Y_2.out)
    go_wp2_with fail
    refine (HCC.out).mono ?_
    rintro e w3 ⟨x2, rfl, ho, hb⟩
    have H_3 := Lib.hid (H_2.out.ext hb)
    have H2_3 := Lib.hid (H2_2.out.ext hb)
    have R_3 := Lib.hid (Sl.of_own ho)
    have B_3 := Lib.hid (B_2.out.trans (hb.mono B_2.out.size))
    clear hb ho X_2 Y_2 H_2 H2_2 B_2
    clear HCC
    have R9 := R_3.out
    obtain ⟨A5, c5, e5, -⟩ := id R9
    rw [hlenT.out] at e5
    subst e5
    have RR := Lib.hid R9
    clear R9
    go_wp2_with fail
    refine (CP.out _ _ H2_3.out).mono ?_
    rintro e w4 ⟨x1, rfl, ho, hb⟩
    have H_4 := Lib.hid (H_3.out.ext hb)
    have H2_4 := Lib.hid (H2_3.out.ext hb)
    have R_4 := Lib.hid (RR.out.ext hb)
    have Y_4 := Lib.hid (Sl.of_own ho)
    have B_4 := Lib.hid (B_3.out.trans (hb.mono B_3.out.size))
    clear hb ho H_3 H2_3 RR B_3
    go_wp2_with fail
    refine (CL.out _ _ Y_4.out).mono ?_
    rintro e w5 ⟨rfl, hb⟩
    have H_5 := Lib.hid (H_4.out.ext hb)
    have R_5 := Lib.hid (R_4.out.ext hb)
    have B_5 := Lib.hid (B_4.out.trans (hb.mono B_4.out.size))
    clear hb Y_4 H2_4 H_4 R_4 B_4
    go_wp2_with fail
    refine (CO2.out _ _ R_5.out).mono ?_
    rintro e w6 ⟨x3, rfl, ho, hb⟩
    have H_6 := Lib.hid (H_5.out.ext hb)
    have R_6 := Lib.hid (R_5.out.ext hb)
    have Z_6 := Lib.hid (Sl.of_own ho)
    have B_6 := Lib.hid (B_5.out.trans (hb.mono B_5.out.size))
    clear hb ho H_5 R_5 B_5
    go_wp2_with fail
    refine (CT.out _ _ Z_6.out).mono ?_
    rintro e w7 ⟨rfl, hb⟩
    have H_7 := Lib.hid (H_6.out.ext hb)
    have R_7 := Lib.hid (R_6.out.ext hb)
    have B_7 := Lib.hid (B_6.out.trans (hb.mono B_6.out.size))
    clear hb Z_6 H_6 R_6 B_6
    go_wp2_with fail
    have hB := B_7.out
    have hw : w.heap.size ≤ w7.heap.size := hB.size
    go_loopw [10] (fun i wr => ∃ k : Nat, k ≤ l.length ∧ i = .int .i64 k ∧ Hid (Below w7.heap.size w7 wr)) (fun i _ => l.length - (intOf i).toNat)
    case atStart => exact ⟨0, by omega, rfl, Lib.hid (Below.refl _ _)⟩
    case round =>
      obtain ⟨i, hi, rfl, hBi⟩ := hrel
      by_cases hlt : i < l.length
      · obtain ⟨b, off, rfl⟩ := H_7.out.base3 (by omega)
        obtain ⟨b5, off5, rfl⟩ := R_7.out.base3 (by have := hlenT.out; omega)
        obtain ⟨c0, c1, c2⟩ := (H_7.out.ext hBi.out).cells3 hlt
        obtain ⟨t0, t1, t2⟩ := (R_7.out.ext hBi.out).cellsT hlt
        have hii : (i : Int) < (l.length : Int) := by omega
        have HO2 := Lib.hid (fun k hk => HO.out i k hlt hk)
        have HC1 := Lib.hid c1; have HC2 := Lib.hid c2; have HT1 := Lib.hid t1
        clear c1 t1
        generalize hx : l[i] = x at *
        obtain ⟨xi, xa, xg⟩ := x
        have HX := Lib.hid hx
        clear hx
        simp only at c0 c2 t0 t2 HC1 HC2 HT1 HO2
        go_wp2_with fail
        go_quiet (fail)
        have hBq := Lib.hid (below_drewN hBi.out nq)
        have HC1 := Lib.hid (show (wr.drewN nq).cell? _ = _ from HC1.out)
        have HC2 := Lib.hid (show (wr.drewN nq).cell? _ = _ from HC2.out)
        have HT1 := Lib.hid (show (wr.drewN nq).cell? _ = _ from HT1.out)
        clear c0 c2 t0 t2 hBi
        generalize wr.drewN nq = wq at *
        go_wp2_with fail
        go_loopw [11] (fun y wr => ∃ k : Nat, k ≤ l.length ∧ y = .int .i64 k ∧ Hid (Below w7.heap.size w7 wr) ∧ Hid (wr.cell? ⟨b, off + i * 3 + 1, none⟩ = some (.int .i64 xa)) ∧ Hid (wr.cell? ⟨b, off + i * 3 + 2, none⟩ = some (.int .u8 xg)) ∧ Hid (wr.cell? ⟨b5, off5 + i * 3 + 1, none⟩ = some (.int .i64 (posV d xa xg)))) (fun i _ => l.length - (intOf i).toNat)
        case atStart => exact ⟨0, by omega, rfl, hBq, HC1, HC2, HT1⟩
        case round =>
          obtain ⟨k, hk, rfl, hBk, D1, D2, E1⟩ := hrel
          clear hBq HC1 HC2 HT1
          by_cases hlk : k < l.length
          · obtain ⟨-, c1, c2⟩ := (H_7.out.ext hBk.out).cells3 hlk
            obtain ⟨-, t1, -⟩ := (R_7.out.ext hBk.out).cellsT hlk
            have hki : (k : Int) < (l.length : Int) := by omega
            have ho := HO2.out k hlk
            have d1 := D1.out; have d2 := D2.out; have e1 := E1.out
            clear D1 D2 E1
            generalize posV d xa xg = px at *
            generalize posV d l[k].a l[k].g = py at *
            generalize l[k] = y at *
            obtain ⟨yi, ya, yg⟩ := y
            simp only at c1 c2 ho
            have F := Lib.hid (show Hid (Below w7.heap.size w7 wr) ∧ wr.cell? ⟨b, off + i * 3 + 1, none⟩ = some (.int .i64 xa) ∧ wr.cell? ⟨b, off + i * 3 + 2, none⟩ = some (.int .u8 xg) ∧ wr.cell? ⟨b5, off5 + i * 3 + 1, none⟩ = some (.int .i64 px) from ⟨hBk, d1, d2, e1⟩)
            clear hBk
            by_cases q1 : xa ≤ ya
            · by_cases q2 : xg ≤ yg
              · have q3 := ho q1 q2
                have d1 := decide_eq_true q1
                have d2 := decide_eq_true q2
                have d3 := decide_eq_false (Int.not_lt.2 q3)
                clear ho q1 q2 q3
                go_wp2_with fail
                go_quiet (fail)
                go_wp2_with fail
                go_roundw
                case rel => exact ⟨k + 1, by omega, by go_num, Lib.hid (below_drewN F.out.1.out _), Lib.hid F.out.2.1, Lib.hid F.out.2.2.1, Lib.hid F.out.2.2.2⟩
                case measure => simp [intOf]; omega
              · have d1 := decide_eq_true q1
                have d2 := decide_eq_false q2
                clear ho q1 q2
                go_wp2_with fail
                go_quiet (fail)
                go_wp2_with fail
                go_roundw
                case rel => exact ⟨k + 1, by omega, by go_num, Lib.hid (below_drewN F.out.1.out _), Lib.hid F.out.2.1, Lib.hid F.out.2.2.1, Lib.hid F.out.2.2.2⟩
                case measure => simp [intOf]; omega
            · have d1 := decide_eq_false q1
              clear ho q1
              go_wp2_with fail
              go_quiet (fail)
              go_wp2_with fail
              go_roundw
              case rel => exact ⟨k + 1, by omega, by go_num, Lib.hid (below_drewN F.out.1.out _), Lib.hid F.out.2.1, Lib.hid F.out.2.2.1, Lib.hid F.out.2.2.2⟩
              case measure => simp [intOf]; omega
          · go_wp2_with fail
            go_roundw
            case rel => exact ⟨i + 1, by omega, by go_num, hBk⟩
            case measure => simp [intOf]; omega
      · go_wp2_with fail
        refine (known9_any _).mono ?_
        rintro e w9 ⟨rfl, hb⟩
        have B9 := Lib.hid ((hB.trans (hBi.out.mono hw)).trans (hb.mono (Nat.le_trans hw hBi.out.size)))
        clear hb
        go_wp2
        go_ret
        exact ⟨rfl, B9.out⟩

end Go.Proofs.Ytibmnkdeepmabaa
