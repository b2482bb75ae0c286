/- quartolaw09.MarkFollows returns true: the walk. -/
import Derived.Test.YtibmnkdeepmabaaKnown9
import Derived.Test.YtibmnkdeepmabaaPlainM9
import Derived.Test.YtibmnkdeepmabaaCompose
namespace Go.Proofs.Ytibmnkdeepmabaa
open Go.RowKit

/-- the cells of a slice of marks whose block is known -/
theorem Sl.base3F {w : World} {A : Option Addr} {n cap : Nat} {l : List Mk} (h : Sl mkE w (.slice A n cap) l) (h0 : 0 < l.length) : ∃ b off, A = some ⟨b, off, none⟩ := by
  obtain ⟨b, off, cap', hv, -⟩ := h.mk3 h0
  injection hv with e1 e2 e3
  exact ⟨b, off, e1⟩
theorem Sl.cells3F {w : World} {b off n cap : Nat} {l : List Mk} (h : Sl mkE w (.slice (some ⟨b, off, none⟩) n cap) l) {k : Nat} (hk : k < l.length) :
    w.cell? ⟨b, off + k * 3, none⟩ = some (.int .u32 l[k].id) ∧ w.cell? ⟨b, off + k * 3 + 1, none⟩ = some (.int .i64 l[k].a) ∧ w.cell? ⟨b, off + k * 3 + 2, none⟩ = some (.int .u8 l[k].g) := by
  obtain ⟨b', off', cap', hv, -, c0, c1, c2⟩ := h.mk3 hk
  obtain ⟨rfl, rfl⟩ : b = b' ∧ off = off' := by injection hv with e1 e2 e3; injection e1 with e1; injection e1 with e1 e2; exact ⟨e1, e2⟩
  exact ⟨c0, c1, c2⟩
theorem Sl.cellsTF {w : World} {b off n cap : Nat} {l : List Mk} {d : List Pc} (h : Sl mkE w (.slice (some ⟨b, off, none⟩) n cap) (l.map (shM d))) {k : Nat} (hk : k < l.length) :
    w.cell? ⟨b, off + k * 3, none⟩ = some (.int .u32 l[k].id) ∧ w.cell? ⟨b, off + k * 3 + 1, none⟩ = some (.int .i64 (posV d l[k].a l[k].g)) ∧ w.cell? ⟨b, off + k * 3 + 2, none⟩ = some (.int .u8 l[k].g) := by
  have := h.cells3F (k := k) (by rw [List.length_map]; exact hk)
  rw [List.getElem_map] at this
  exact this
theorem Sl.cellsTTF {w : World} {b off n cap : Nat} {l : List Mk} {d f : List Pc} (h : Sl mkE w (.slice (some ⟨b, off, none⟩) n cap) ((l.map (shM d)).map (shM f))) {k : Nat} (hk : k < l.length) :
    w.cell? ⟨b, off + k * 3, none⟩ = some (.int .u32 l[k].id) ∧ w.cell? ⟨b, off + k * 3 + 1, none⟩ = some (.int .i64 (posV f (posV d l[k].a l[k].g) l[k].g)) ∧ w.cell? ⟨b, off + k * 3 + 2, none⟩ = some (.int .u8 l[k].g) := by
  have := h.cells3F (k := k) (by rw [List.length_map, List.length_map]; exact hk)
  rw [List.getElem_map, List.getElem_map] at this
  exact this
/-- under a composition, and step by step -/
theorem follow {a b : List Pc} {l : List Mk} (h : cmpE a b = 0) (hc : chkM (inL a) l = 0) (hw : ∀ m, m ∈ l → m.wf) : errL a = 0 ∧ errL b = 0 ∧ errL (cmpR a b) = 0 ∧ inL (cmpR a b) = inL a ∧ chkM (inL b) (l.map (shM a)) = 0 ∧
    ∀ m, m ∈ l → (m.g = 0 → posV (cmpR a b) m.a m.g ≤ posV b (posV a m.a m.g) m.g) ∧ (m.g = 1 → posV b (posV a m.a m.g) m.g ≤ posV (cmpR a b) m.a m.g) := by
  obtain ⟨ha, hb, hio, -⟩ := cmpE_ok h
  obtain ⟨-, hr, -, hri, -⟩ := cmpR_ok h
  have hs := sh_set ha hc hw
  rw [hio] at hs
  refine ⟨ha, hb, hr, hri, hs, fun m hm => ?_⟩
  have e1 := pos_val hr (by rw [hri]; exact hc) hm (hw m hm)
  have e2 := pos_val ha hc hm (hw m hm)
  have hm2 : shM a m ∈ l.map (shM a) := List.mem_map.2 ⟨m, hm, rfl⟩
  have e3 : posV b (posV a m.a m.g) m.g = if m.g = 0 then leftP (posV a m.a m.g) 0 (runsT false b) else rightP (posV a m.a m.g) (outL b) (runsT false b) := pos_val hb hs hm2 (sh_wf ha hc hw _ hm2)
  rw [e1, e3, e2]
  constructor
  · intro q
    rw [if_pos q, if_pos q, if_pos q]
    exact cmp_left h m.a
  · intro q
    rw [if_neg (by omega), if_neg (by omega), if_neg (by omega)]
    exact cmp_right h m.a

set_option maxHeartbeats 8000000 in
set_option maxRecDepth 100000 in
theorem lawMarkFollows_any (v : Value) (l : List Mk) (v2 : Value) (a : List Pc) (v3 : Value) (b : List Pc) (w : World) (h : Sl mkE w v l) (hd : ∀ m, m ∈ l → m.wf) (hl : l.length * 24 ≤ 140737488355328) (h2 : Sl pcE w v2 a) (hd2 : ∀ p, p ∈ a → p.wf) (hl2 : a.length * 32 ≤ 140737488355328) (h3 : Sl pcE w v3 b) (hd3 : ∀ p, p ∈ b → p.wf) (hl3 : b.length * 32 ≤ 140737488355328) :
    Calls Try.prog 10 #[v, v2, v3] w fun e w' => e = .returned (.bool true) ∧ Below w.heap.size w w' := by
  have cO := fun w x h => own9_any x l w h hl
  have cP := fun w x h => pieces9_any x a w h hl2
  have cQ := fun w x h => pieces9_any x b w h hl3
  have cM := fun w x y h k => compose_any x y a b w h k hd2 hd3
  have H := Lib.hid h; have H2 := Lib.hid h2; have H3 := Lib.hid h3; have CO := Lib.hid cO; have CP := Lib.hid cP; have CQ := Lib.hid cQ
  clear cO cP cQ h h2 h3 hl hl2 hl3
  by_cases hm : cmpE a b = 0
  case neg =>
    rw [cmpR_none hm] at cM
    have hE : (cmpE a b != 0) = true := by simpa using hm
    generalize cmpE a b = E at *
    have CM := Lib.hid cM
    clear cM hm hd hd2 hd3
    go_enter Try.func10, Try.ntmps10
    go_wp2_with fail
    refine (CP.out _ _ H2.out).mono ?_
    rintro e w1 ⟨x0, rfl, ho, hb⟩
    have H_1 := Lib.hid (H.out.ext hb)
    have H2_1 := Lib.hid (H2.out.ext hb)
    have H3_1 := Lib.hid (H3.out.ext hb)
    have X_1 := Lib.hid (Sl.of_own ho)
    have B_1 := Lib.hid hb
    clear hb ho H H2 H3
    go_wp2_with fail
    refine (CQ.out _ _ H3_1.out).mono ?_
    rintro e w2 ⟨x1, rfl, ho, hb⟩
    have H_2 := Lib.hid (H_1.out.ext hb)
    have H2_2 := Lib.hid (H2_1.out.ext hb)
    have H3_2 := Lib.hid (H3_1.out.ext hb)
    have X_2 := Lib.hid (X_1.out.ext hb)
    have Y_2 := Lib.hid (Sl.of_own ho)
    have B_2 := Lib.hid (B_1.out.trans (hb.mono B_1.out.size))
    clear hb ho H_1 H2_1 H3_1 X_1 B_1
    have HCC := Lib.hid (CM.out _ _ _ X_2.out Y_2.out)
    go_wp2_with fail
    refine (HCC.out).mono ?_
    rintro e w3 ⟨x2, rfl, ho, hb⟩
    have H_3 := Lib.hid (H_2.out.ext hb)
    have H2_3 := Lib.hid (H2_2.out.ext hb)
    have H3_3 := Lib.hid (H3_2.out.ext hb)
    have C_3 := Lib.hid (Sl.of_own ho)
    have B_3 := Lib.hid (B_2.out.trans (hb.mono B_2.out.size))
    clear hb ho X_2 Y_2 H_2 H2_2 H3_2 B_2
    clear HCC CM
    go_wp2_with fail
    refine (known9_any _).mono ?_
    rintro e w4 ⟨rfl, hb⟩
    have B_4 := Lib.hid (B_3.out.trans (hb.mono B_3.out.size))
    clear hb C_3 H_3 H2_3 H3_3 B_3
    go_wp2
    go_ret
    exact ⟨rfl, B_4.out⟩
  case pos =>
    rw [hm] at cM
    have CM := Lib.hid cM
    have hc0 := fun w x y h k => shift_any x y l (cmpR a b) w h hd k (wf_of_err (cmpR_ok hm).2.1)
    have ha0 := fun w x y h k => shift_any x y l a w h hd k hd2
    have eC : shE l (cmpR a b) = chkM (inL a) l := by rw [shE, if_pos (cmpR_ok hm).2.1, (cmpR_ok hm).2.2.2.1]
    have eA : shE l a = chkM (inL a) l := by rw [shE, if_pos (cmpE_ok hm).1]
    by_cases hc : chkM (inL a) l = 0
    case neg =>
      rw [shR, eC, if_neg hc] at hc0
      rw [shR, eA, if_neg hc] at ha0
      have hE : (chkM (inL a) l != 0) = true := by simpa using hc
      generalize chkM (inL a) l = E at *
      have C0 := Lib.hid hc0; have A0 := Lib.hid ha0
      clear cM hm hd hd2 hd3 hc0 ha0 eC eA hc
      go_enter Try.func10, Try.ntmps10
      go_wp2_with fail
      refine (CP.out _ _ H2.out).mono ?_
      rintro e w1 ⟨x0, rfl, ho, hb⟩
      have H_1 := Lib.hid (H.out.ext hb)
      have H2_1 := Lib.hid (H2.out.ext hb)
      have H3_1 := Lib.hid (H3.out.ext hb)
      have X_1 := Lib.hid (Sl.of_own ho)
      have B_1 := Lib.hid hb
      clear hb ho H H2 H3
      go_wp2_with fail
      refine (CQ.out _ _ H3_1.out).mono ?_
      rintro e w2 ⟨x1, rfl, ho, hb⟩
      have H_2 := Lib.hid (H_1.out.ext hb)
      have H2_2 := Lib.hid (H2_1.out.ext hb)
      have H3_2 := Lib.hid (H3_1.out.ext hb)
      have X_2 := Lib.hid (X_1.out.ext hb)
      have Y_2 := Lib.hid (Sl.of_own ho)
      have B_2 := Lib.hid (B_1.out.trans (hb.mono B_1.out.size))
      clear hb ho H_1 H2_1 H3_1 X_1 B_1
      have HCC := Lib.hid (CM.out _ _ _ X_2.out Y_2.out)
      go_wp2_with fail
      refine (HCC.out).mono ?_
      rintro e w3 ⟨x2, rfl, ho, hb⟩
      have H_3 := Lib.hid (H_2.out.ext hb)
      have H2_3 := Lib.hid (H2_2.out.ext hb)
      have H3_3 := Lib.hid (H3_2.out.ext hb)
      have C_3 := Lib.hid (Sl.of_own ho)
      have B_3 := Lib.hid (B_2.out.trans (hb.mono B_2.out.size))
      clear hb ho X_2 Y_2 H_2 H2_2 H3_2 B_2
      clear HCC CM
      go_wp2_with fail
      refine (CO.out _ _ H_3.out).mono ?_
      rintro e w4 ⟨x3, rfl, ho, hb⟩
      have H_4 := Lib.hid (H_3.out.ext hb)
      have H2_4 := Lib.hid (H2_3.out.ext hb)
      have H3_4 := Lib.hid (H3_3.out.ext hb)
      have C_4 := Lib.hid (C_3.out.ext hb)
      have L_4 := Lib.hid (Sl.of_own ho)
      have B_4 := Lib.hid (B_3.out.trans (hb.mono B_3.out.size))
      clear hb ho H_3 H2_3 H3_3 C_3 B_3
      have HCC := Lib.hid (C0.out _ _ _ L_4.out C_4.out)
      go_wp2_with fail
      refine (HCC.out).mono ?_
      rintro e w5 ⟨x4, rfl, ho, hb⟩
      have H_5 := Lib.hid (H_4.out.ext hb)
      have H2_5 := Lib.hid (H2_4.out.ext hb)
      have H3_5 := Lib.hid (H3_4.out.ext hb)
      have X_5 := Lib.hid (Sl.of_own ho)
      have B_5 := Lib.hid (B_4.out.trans (hb.mono B_4.out.size))
      clear hb ho L_4 C_4 H_4 H2_4 H3_4 B_4
      clear HCC
      go_wp2_with fail
      refine (CO.out _ _ H_5.out).mono ?_
      rintro e w6 ⟨x5, rfl, ho, hb⟩
      have H_6 := Lib.hid (H_5.out.ext hb)
      have H2_6 := Lib.hid (H2_5.out.ext hb)
      have H3_6 := Lib.hid (H3_5.out.ext hb)
      have X_6 := Lib.hid (X_5.out.ext hb)
      have L_6 := Lib.hid (Sl.of_own ho)
      have B_6 := Lib.hid (B_5.out.trans (hb.mono B_5.out.size))
      clear hb ho H_5 H2_5 H3_5 X_5 B_5
      go_wp2_with fail
      refine (CP.out _ _ H2_6.out).mono ?_
      rintro e w7 ⟨x6, rfl, ho, hb⟩
      have H_7 := Lib.hid (H_6.out.ext hb)
      have H2_7 := Lib.hid (H2_6.out.ext hb)
      have H3_7 := Lib.hid (H3_6.out.ext hb)
      have X_7 := Lib.hid (X_6.out.ext hb)
      have L_7 := Lib.hid (L_6.out.ext hb)
      have A_7 := Lib.hid (Sl.of_own ho)
      have B_7 := Lib.hid (B_6.out.trans (hb.mono B_6.out.size))
      clear hb ho H_6 H2_6 H3_6 X_6 L_6 B_6
      have HCC := Lib.hid (A0.out _ _ _ L_7.out A_7.out)
      go_wp2_with fail
      refine (HCC.out).mono ?_
      rintro e w8 ⟨x7, rfl, ho, hb⟩
      have H_8 := Lib.hid (H_7.out.ext hb)
      have H2_8 := Lib.hid (H2_7.out.ext hb)
      have H3_8 := Lib.hid (H3_7.out.ext hb)
      have X_8 := Lib.hid (X_7.out.ext hb)
      have Y_8 := Lib.hid (Sl.of_own ho)
      have B_8 := Lib.hid (B_7.out.trans (hb.mono B_7.out.size))
      clear hb ho L_7 A_7 H_7 H2_7 H3_7 X_7 B_7
      clear HCC
      go_wp2_with fail
      refine (known9_any _).mono ?_
      rintro e w9 ⟨rfl, hb⟩
      have B_9 := Lib.hid (B_8.out.trans (hb.mono B_8.out.size))
      clear hb X_8 Y_8 H_8 H2_8 H3_8 B_8
      go_wp2
      go_ret
      exact ⟨rfl, B_9.out⟩
    case pos =>
      obtain ⟨f1, f2, f3, f4, f5, f6⟩ := follow hm hc hd
      rw [shR, eC, if_pos hc, hc] at hc0
      rw [shR, eA, if_pos hc, hc] at ha0
      have hb0 := fun w x y h k => shift_any x y (l.map (shM a)) b w h (sh_wf f1 hc hd) k hd3
      have eB : shE (l.map (shM a)) b = 0 := by rw [shE, if_pos f2, f5]
      rw [shR, eB, if_pos rfl] at hb0
      have hF : ∀ i (hi : i < l.length), (l[i].g = 0 ∨ l[i].g = 1) ∧ (l[i].g = 0 → posV (cmpR a b) l[i].a l[i].g ≤ posV b (posV a l[i].a l[i].g) l[i].g) ∧ (l[i].g = 1 → posV b (posV a l[i].a l[i].g) l[i].g ≤ posV (cmpR a b) l[i].a l[i].g) := fun i hi => by
        have h1 := ((chkM_zero _ _).1 hc).all _ (List.getElem_mem hi)
        have h2 := (hd _ (List.getElem_mem hi)).2.2.2.2
        exact ⟨by omega, f6 _ (List.getElem_mem hi)⟩
      have hl64 : l.length ≤ 64 := ((chkM_zero _ _).1 hc).len
      have C0 := Lib.hid hc0; have A0 := Lib.hid ha0; have B0 := Lib.hid hb0; have HF := Lib.hid hF
      have hlX := Lib.hid (List.length_map (shM (cmpR a b)) : (l.map (shM (cmpR a b))).length = l.length)
      have hlZ := Lib.hid (show ((l.map (shM a)).map (shM b)).length = l.length by rw [List.length_map, List.length_map])
      clear cM hm hd hd2 hd3 hc0 ha0 hb0 eC eA eB hc f1 f2 f3 f4 f5 f6 hF
      obtain ⟨A, cap, rfl, -, -, -⟩ := id H.out
      obtain ⟨A2, cap2, rfl, -, -, -⟩ := id H2.out
      obtain ⟨A3, cap3, rfl, -, -, -⟩ := id H3.out
      go_enter Try.func10, Try.ntmps10
      go_wp2_with fail
      refine (CP.out _ _ H2.out).mono ?_
      rintro e w1 ⟨x0, rfl, ho, hb⟩
      have H_1 := Lib.hid (H.out.ext hb)
      have H2_1 := Lib.hid (H2.out.ext hb)
      have H3_1 := Lib.hid (H3.out.ext hb)
      have X_1 := Lib.hid (Sl.of_own ho)
      have B_1 := Lib.hid hb
      clear hb ho H H2 H3
      go_wp2_with fail
      refine (CQ.out _ _ H3_1.out).mono ?_
      rintro e w2 ⟨x1, rfl, ho, hb⟩
      have H_2 := Lib.hid (H_1.out.ext hb)
      have H2_2 := Lib.hid (H2_1.out.ext hb)
      have H3_2 := Lib.hid (H3_1.out.ext hb)
      have X_2 := Lib.hid (X_1.out.ext hb)
      have Y_2 := Lib.hid (Sl.of_own ho)
      have B_2 := Lib.hid (B_1.out.trans (hb.mono B_1.out.size))
      clear hb ho H_1 H2_1 H3_1 X_1 B_1
      have HCC := Lib.hid (CM.out _ _ _ X_2.out Y_2.out)
      go_wp2_with fail
      refine (HCC.out).mono ?_
      rintro e w3 ⟨x2, rfl, ho, hb⟩
      have H_3 := Lib.hid (H_2.out.ext hb)
      have H2_3 := Lib.hid (H2_2.out.ext hb)
      have H3_3 := Lib.hid (H3_2.out.ext hb)
      have C_3 := Lib.hid (Sl.of_own ho)
      have B_3 := Lib.hid (B_2.out.trans (hb.mono B_2.out.size))
      clear hb ho X_2 Y_2 H_2 H2_2 H3_2 B_2
      clear HCC CM
      go_wp2_with fail
      refine (CO.out _ _ H_3.out).mono ?_
      rintro e w4 ⟨x3, rfl, ho, hb⟩
      have H_4 := Lib.hid (H_3.out.ext hb)
      have H2_4 := Lib.hid (H2_3.out.ext hb)
      have H3_4 := Lib.hid (H3_3.out.ext hb)
      have C_4 := Lib.hid (C_3.out.ext hb)
      have L_4 := Lib.hid (Sl.of_own ho)
      have B_4 := Lib.hid (B_3.out.trans (hb.mono B_3.out.size))
      clear hb ho H_3 H2_3 H3_3 C_3 B_3
      have HCC := Lib.hid (C0.out _ _ _ L_4.out C_4.out)
      go_wp2_with fail
      refine (HCC.out).mono ?_
      rintro e w5 ⟨x4, rfl, ho, hb⟩
      have H_5 := Lib.hid (H_4.out.ext hb)
      have H2_5 := Lib.hid (H2_4.out.ext hb)
      have H3_5 := Lib.hid (H3_4.out.ext hb)
      have X_5 := Lib.hid (Sl.of_own ho)
      have B_5 := Lib.hid (B_4.out.trans (hb.mono B_4.out.size))
      clear hb ho L_4 C_4 H_4 H2_4 H3_4 B_4
      clear HCC
      go_wp2_with fail
      refine (CO.out _ _ H_5.out).mono ?_
      rintro e w6 ⟨x5, rfl, ho, hb⟩
      have H_6 := Lib.hid (H_5.out.ext hb)
      have H2_6 := Lib.hid (H2_5.out.ext hb)
      have H3_6 := Lib.hid (H3_5.out.ext hb)
      have X_6 := Lib.hid (X_5.out.ext hb)
      have L_6 := Lib.hid (Sl.of_own ho)
      have B_6 := Lib.hid (B_5.out.trans (hb.mono B_5.out.size))
      clear hb ho H_5 H2_5 H3_5 X_5 B_5
      go_wp2_with fail
      refine (CP.out _ _ H2_6.out).mono ?_
      rintro e w7 ⟨x6, rfl, ho, hb⟩
      have H_7 := Lib.hid (H_6.out.ext hb)
      have H2_7 := Lib.hid (H2_6.out.ext hb)
      have H3_7 := Lib.hid (H3_6.out.ext hb)
      have X_7 := Lib.hid (X_6.out.ext hb)
      have L_7 := Lib.hid (L_6.out.ext hb)
      have A_7 := Lib.hid (Sl.of_own ho)
      have B_7 := Lib.hid (B_6.out.trans (hb.mono B_6.out.size))
      clear hb ho H_6 H2_6 H3_6 X_6 L_6 B_6
      have HCC := Lib.hid (A0.out _ _ _ L_7.out A_7.out)
      go_wp2_with fail
      refine (HCC.out).mono ?_
      rintro e w8 ⟨x7, rfl, ho, hb⟩
      have H_8 := Lib.hid (H_7.out.ext hb)
      have H2_8 := Lib.hid (H2_7.out.ext hb)
      have H3_8 := Lib.hid (H3_7.out.ext hb)
      have X_8 := Lib.hid (X_7.out.ext hb)
      have Y_8 := Lib.hid (Sl.of_own ho)
      have B_8 := Lib.hid (B_7.out.trans (hb.mono B_7.out.size))
      clear hb ho L_7 A_7 H_7 H2_7 H3_7 X_7 B_7
      clear HCC
      clear CP CO C0 A0
      go_wp2_with fail
      refine (CQ.out _ _ H3_8.out).mono ?_
      rintro e w9 ⟨x8, rfl, ho, hb⟩
      have H_9 := Lib.hid (H_8.out.ext hb)
      have H3_9 := Lib.hid (H3_8.out.ext hb)
      have X_9 := Lib.hid (X_8.out.ext hb)
      have Y_9 := Lib.hid (Y_8.out.ext hb)
      have Q_9 := Lib.hid (Sl.of_own ho)
      have B_9 := Lib.hid (B_8.out.trans (hb.mono B_8.out.size))
      clear hb ho H2_8 H_8 H3_8 X_8 Y_8 B_8
      have HCC := Lib.hid (B0.out _ _ _ Y_9.out Q_9.out)
      go_wp2_with fail
      refine (HCC.out).mono ?_
      rintro e w10 ⟨x9, rfl, ho, hb⟩
      have H_10 := Lib.hid (H_9.out.ext hb)
      have X_10 := Lib.hid (X_9.out.ext hb)
      have Z_10 := Lib.hid (Sl.of_own ho)
      have B_10 := Lib.hid (B_9.out.trans (hb.mono B_9.out.size))
      clear hb ho Y_9 Q_9 H3_9 H_9 X_9 B_9
      clear HCC B0 CQ
      have R9 := X_10.out
      obtain ⟨AX, cX, e5, -⟩ := id R9
      rw [hlX.out] at e5
      subst e5
      have RX := Lib.hid R9
      clear R9
      have R9 := Z_10.out
      obtain ⟨AZ, cZ, e5, -⟩ := id R9
      rw [hlZ.out] at e5
      subst e5
      have RZ := Lib.hid R9
      clear R9
      go_wp2_with fail
      have hB := B_10.out
      have hw : w.heap.size ≤ w10.heap.size := hB.size
      go_loopw [14] (fun y wr => ∃ k : Nat, k ≤ l.length ∧ y = .int .i64 k ∧ Hid (Below w10.heap.size w10 wr)) (fun i _ => l.length - (intOf i).toNat)
      case atStart => exact ⟨0, by omega, rfl, Lib.hid (Below.refl _ _)⟩
      case round =>
        obtain ⟨i, hi, rfl, hBi⟩ := hrel
        by_cases hlt : i < l.length
        · obtain ⟨bx, offx, rfl⟩ := RX.out.base3F (by have := hlX.out; omega)
          obtain ⟨bz, offz, rfl⟩ := RZ.out.base3F (by have := hlZ.out; omega)
          obtain ⟨x0, x1, x2⟩ := (RX.out.ext hBi.out).cellsTF hlt
          obtain ⟨z0, z1, z2⟩ := (RZ.out.ext hBi.out).cellsTTF hlt
          have hii : (i : Int) < (l.length : Int) := by omega
          obtain ⟨hg, hF0, hF1⟩ := HF.out i hlt
          clear x0 z0 z2
          generalize posV (cmpR a b) l[i].a l[i].g = px at *
          generalize posV b (posV a l[i].a l[i].g) l[i].g = pz at *
          generalize l[i].g = g at *
          rcases hg with rfl | rfl
          · have d3 := decide_eq_false (Int.not_lt.2 (hF0 rfl))
            clear hF0 hF1
            go_wp2_with fail
            go_quiet (fail)
            go_wp2_with fail
            go_roundw
            case rel => exact ⟨i + 1, by omega, by go_num, Lib.hid (below_drewN hBi.out _)⟩
            case measure => simp [intOf]; omega
          · have d3 := decide_eq_false (Int.not_lt.2 (hF1 rfl))
            clear hF0 hF1
            go_wp2_with fail
            go_quiet (fail)
            go_wp2_with fail
            go_roundw
            case rel => exact ⟨i + 1, by omega, by go_num, Lib.hid (below_drewN hBi.out _)⟩
            case measure => simp [intOf]; omega
        · go_wp2_with fail
          refine (known9_any _).mono ?_
          rintro e w99 ⟨rfl, hb⟩
          have B9 := Lib.hid ((hB.trans (hBi.out.mono hw)).trans (hb.mono (Nat.le_trans hw hBi.out.size)))
          clear hb
          go_wp2
          go_ret
          exact ⟨rfl, B9.out⟩

end Go.Proofs.Ytibmnkdeepmabaa
