/- quartoref09.Set and Drop: what they return. Condition: the marks read as values of their type. -/
import Derived.Test.YtibmnkdeepmabaaRef9a
namespace Go.Proofs.Ytibmnkdeepmabaa
open Go.RowKit

set_option maxHeartbeats 1000000 in
theorem refSet_bad1 (v : Value) (l : List Mk) (m : Mk) (w : World) (h : Sl mkE w v l) (hd : ∀ m, m ∈ l → m.wf) (hc : chkM 9223372036854775807 l ≠ 0) :
    Calls Try.prog 16 #[v, m.v] w fun e w' => e = .returned (.tuple #[.slice none 0 0, .int .i64 2]) ∧ Below w.heap.size w w' := by
  have cC := fun w' hS => refIs_any v l w' hS hd
  have hE : (chkM 9223372036854775807 l == 0) = false := by simpa using hc
  rw [hE] at cC
  obtain ⟨i, a, g⟩ := m
  unfold Mk.v
  have H := Lib.hid h; have CC := Lib.hid cC
  clear h cC hc hd hE
  go_enter Try.func16, Try.ntmps16
  go_wp2_with fail
  refine (CC.out _ (H.out.alloc _)).mono ?_
  rintro e w1 ⟨rfl, hb⟩
  go_wp2
  go_ret2
  exact ⟨rfl, below_one hb⟩

set_option maxHeartbeats 4000000 in
set_option maxRecDepth 100000 in
theorem refSet_bad2 (v : Value) (l : List Mk) (m : Mk) (w : World) (h : Sl mkE w v l) (hd : ∀ m, m ∈ l → m.wf) (hm : m.wf) (hc : chkM 9223372036854775807 l = 0) (hc2 : chkM 9223372036854775807 [m] ≠ 0) :
    Calls Try.prog 16 #[v, m.v] w fun e w' => e = .returned (.tuple #[.slice none 0 0, .int .i64 2]) ∧ Below w.heap.size w w' := by
  have cC := fun w' hS => refIs_any v l w' hS hd
  have cD := fun w' v hS => refIs_any v [m] w' hS (fun x hx => by rw [List.mem_singleton.1 hx]; exact hm)
  have hx := fun w' t => Sl.new1 w' m t
  have hbx := fun w' t => box3 w' m t
  rw [show (chkM 9223372036854775807 l == 0) = true by rw [hc]; rfl] at cC
  rw [show (chkM 9223372036854775807 [m] == 0) = false by simpa using hc2] at cD
  generalize [m] = lm at *
  obtain ⟨i, a, g⟩ := m
  unfold Mk.v
  simp only at *
  have H := Lib.hid h; have CC := Lib.hid cC; have CD := Lib.hid cD; have HX := Lib.hid hx; have HBX := Lib.hid hbx
  clear h cC hc hc2 hd cD hx hbx hm
  go_enter Try.func16, Try.ntmps16
  go_wp2_with fail
  refine (CC.out _ (H.out.alloc _)).mono ?_
  rintro e w1 ⟨rfl, hb⟩
  obtain ⟨k0, k1, k2⟩ := HBX.out w 32
  have c0 := (hb.cell (p := ⟨w.heap.size, 0, none⟩) (by simp)).trans k0
  have c1 := (hb.cell (p := ⟨w.heap.size, 1, none⟩) (by simp)).trans k1
  have c2 := (hb.cell (p := ⟨w.heap.size, 2, none⟩) (by simp)).trans k2
  have hlt1 : w.heap.size < w1.heap.size := Nat.lt_of_lt_of_le (by simp) hb.size
  clear k0 k1 k2
  have HB := Lib.hid (below_one hb)
  clear hb
  go_wp2_with fail
  refine (CD.out _ _ (HX.out w1 32)).mono ?_
  rintro e w2 ⟨rfl, hb⟩
  go_wp2
  go_ret2
  exact ⟨rfl, HB.out.trans ((below_one hb).mono HB.out.size)⟩

set_option maxHeartbeats 4000000 in
set_option maxRecDepth 100000 in
theorem refSet_full (v : Value) (l : List Mk) (m : Mk) (w : World) (h : Sl mkE w v l) (hd : ∀ m, m ∈ l → m.wf) (hm : m.wf) (hc : chkM 9223372036854775807 l = 0) (hc2 : chkM 9223372036854775807 [m] = 0) (hf : 64 ≤ (wo9 m.id l).length) :
    Calls Try.prog 16 #[v, m.v] w fun e w' => e = .returned (.tuple #[.slice none 0 0, .int .i64 20]) ∧ Below w.heap.size w w' := by
  have cC := fun w' hS => refIs_any v l w' hS hd
  have cD := fun w' v hS => refIs_any v [m] w' hS (fun x hx => by rw [List.mem_singleton.1 hx]; exact hm)
  have hx := fun w' t => Sl.new1 w' m t
  have hbx := fun w' t => box3 w' m t
  rw [show (chkM 9223372036854775807 l == 0) = true by rw [hc]; rfl] at cC
  rw [show (chkM 9223372036854775807 [m] == 0) = true by rw [hc2]; rfl] at cD
  have hln := ((chkM_zero _ _).1 hc).len
  have hwl := wo9_len m.id l
  have cW := fun w' hS => without_any v l m.id w' hS (by omega)
  have hfi : (64 : Int) ≤ ((wo9 m.id l).length : Int) := by omega
  generalize hrest : wo9 m.id l = rest at *
  clear hrest
  generalize [m] = lm at *
  obtain ⟨i, a, g⟩ := m
  unfold Mk.v
  simp only at *
  have H := Lib.hid h; have CC := Lib.hid cC; have CD := Lib.hid cD; have HX := Lib.hid hx; have HBX := Lib.hid hbx; have CW := Lib.hid cW
  clear h cC hc hc2 hd cD hx hbx hm cW
  go_enter Try.func16, Try.ntmps16
  go_wp2_with fail
  refine (CC.out _ (H.out.alloc _)).mono ?_
  rintro e w1 ⟨rfl, hb⟩
  obtain ⟨k0, k1, k2⟩ := HBX.out w 32
  have c0 := (hb.cell (p := ⟨w.heap.size, 0, none⟩) (by simp)).trans k0
  have c1 := (hb.cell (p := ⟨w.heap.size, 1, none⟩) (by simp)).trans k1
  have c2 := (hb.cell (p := ⟨w.heap.size, 2, none⟩) (by simp)).trans k2
  have hlt1 : w.heap.size < w1.heap.size := Nat.lt_of_lt_of_le (by simp) hb.size
  clear k0 k1 k2
  have HB := Lib.hid (below_one hb)
  clear hb
  go_wp2_with fail
  refine (CD.out _ _ (HX.out w1 32)).mono ?_
  rintro e w2 ⟨rfl, hb⟩
  have hb2 := below_one hb
  have hlt2 : w.heap.size < w2.heap.size := Nat.lt_of_lt_of_le hlt1 hb2.size
  have d0 := (hb2.cell (p := ⟨w.heap.size, 0, none⟩) hlt1).trans c0
  have d1 := (hb2.cell (p := ⟨w.heap.size, 1, none⟩) hlt1).trans c1
  have d2 := (hb2.cell (p := ⟨w.heap.size, 2, none⟩) hlt1).trans c2
  have HB2 := Lib.hid (HB.out.trans (hb2.mono HB.out.size))
  clear c0 c1 c2 hb hb2 HB
  go_wp2_with fail
  refine (CW.out _ (H.out.ext HB2.out)).mono ?_
  rintro e w3 ⟨v', rfl, hown, hb⟩
  have hlt3 : w.heap.size < w3.heap.size := Nat.lt_of_lt_of_le hlt2 hb.size
  have c0 := (hb.cell (p := ⟨w.heap.size, 0, none⟩) hlt2).trans d0
  have c1 := (hb.cell (p := ⟨w.heap.size, 1, none⟩) hlt2).trans d1
  have c2 := (hb.cell (p := ⟨w.heap.size, 2, none⟩) hlt2).trans d2
  have HB3 := Lib.hid (HB2.out.trans (hb.mono HB2.out.size))
  clear d0 d1 d2 hb HB2
  obtain ⟨AR, cR, rfl⟩ := own_form w3 (own_zero hown)
  clear hown
  go_wp2
  go_ret2
  exact ⟨rfl, HB3.out⟩
theorem bal9 {w W : World} {o : Obj} (h : Below w.heap.size w W) : Below w.heap.size w (W.alloc o) := h.alloc h.size o
theorem bdr9 {w W : World} (h : Below w.heap.size w W) : Below w.heap.size w W.drew := h.drew
theorem own_forms9 {w : World} {B n : Nat} {e : TypeId} {v : Value} {xs : List Value} (h : w.ownsRow B e 3 v n xs) : (v = .slice none 0 0 ∧ n = 0) ∨ ∃ g cap, v = .slice (some ⟨g, 0, none⟩) n cap ∧ n ≤ cap ∧ cap ≤ maxLen := by
  rcases h.2 with h0 | ⟨g, cap, cur, rfl, _, _, h1, h2, _⟩
  · exact .inl h0
  · exact .inr ⟨g, cap, rfl, h1, h2⟩
theorem heap_new2 (V : World) (o o' : Obj) : ((V.alloc o).alloc o').heap[V.heap.size + 1]? = some o' := by
  have e : (V.alloc o).heap.size = V.heap.size + 1 := by simp
  rw [← e]
  exact heap_alloc_new _ _

set_option maxHeartbeats 4000000 in
set_option maxRecDepth 100000 in
theorem refSet_ok (v : Value) (l : List Mk) (m : Mk) (w : World) (h : Sl mkE w v l) (hd : ∀ m, m ∈ l → m.wf) (hm : m.wf) (hc : chkM 9223372036854775807 l = 0) (hc2 : chkM 9223372036854775807 [m] = 0) (hf : (wo9 m.id l).length < 64) :
    Calls Try.prog 16 #[v, m.v] w fun e w' => ∃ v', e = .returned (.tuple #[v', .int .i64 0]) ∧ w'.ownsRow w.heap.size 32 3 v' (setR l m).length (mkE.flat (setR l m)) ∧ Below w.heap.size w w' := by
  have cC := fun w' hS => refIs_any v l w' hS hd
  have cD := fun w' v hS => refIs_any v [m] w' hS (fun x hx => by rw [List.mem_singleton.1 hx]; exact hm)
  have hx := fun w' t => Sl.new1 w' m t
  have hbx := fun w' t => box3 w' m t
  rw [show (chkM 9223372036854775807 l == 0) = true by rw [hc]; rfl] at cC
  obtain ⟨i0, hi, hz0, hz1, hz2⟩ := info_parts infoMark
  obtain ⟨RES, hR0⟩ : ∃ RES, RES = setR l m := ⟨_, rfl⟩
  have hres := hR0
  rw [setR] at hres
  rw [← hR0]
  clear hR0
  rw [show (chkM 9223372036854775807 [m] == 0) = true by rw [hc2]; rfl] at cD
  have hln := ((chkM_zero _ _).1 hc).len
  have hwl := wo9_len m.id l
  have cW := fun w' hS => without_any v l m.id w' hS (by omega)
  have hfi : ((wo9 m.id l).length : Int) < 64 := by omega
  generalize hrest : wo9 m.id l = rest at *
  clear hrest
  generalize [m] = lm at *
  obtain ⟨i, a, g⟩ := m
  unfold Mk.v
  simp only at *
  have H := Lib.hid h; have CC := Lib.hid cC; have CD := Lib.hid cD; have HX := Lib.hid hx; have HBX := Lib.hid hbx; have CW := Lib.hid cW
  clear h cC hc hc2 hd cD hx hbx hm cW
  have HRES := Lib.hid hres
  clear hres
  go_enter Try.func16, Try.ntmps16
  go_wp2_with fail
  refine (CC.out _ (H.out.alloc _)).mono ?_
  rintro e w1 ⟨rfl, hb⟩
  obtain ⟨k0, k1, k2⟩ := HBX.out w 32
  have c0 := (hb.cell (p := ⟨w.heap.size, 0, none⟩) (by simp)).trans k0
  have c1 := (hb.cell (p := ⟨w.heap.size, 1, none⟩) (by simp)).trans k1
  have c2 := (hb.cell (p := ⟨w.heap.size, 2, none⟩) (by simp)).trans k2
  have hlt1 : w.heap.size < w1.heap.size := Nat.lt_of_lt_of_le (by simp) hb.size
  clear k0 k1 k2
  have HB := Lib.hid (below_one hb)
  clear hb
  go_wp2_with fail
  refine (CD.out _ _ (HX.out w1 32)).mono ?_
  rintro e w2 ⟨rfl, hb⟩
  have hb2 := below_one hb
  have hlt2 : w.heap.size < w2.heap.size := Nat.lt_of_lt_of_le hlt1 hb2.size
  have d0 := (hb2.cell (p := ⟨w.heap.size, 0, none⟩) hlt1).trans c0
  have d1 := (hb2.cell (p := ⟨w.heap.size, 1, none⟩) hlt1).trans c1
  have d2 := (hb2.cell (p := ⟨w.heap.size, 2, none⟩) hlt1).trans c2
  have HB2 := Lib.hid (HB.out.trans (hb2.mono HB.out.size))
  clear c0 c1 c2 hb hb2 HB
  go_wp2_with fail
  refine (CW.out _ (H.out.ext HB2.out)).mono ?_
  rintro e w3 ⟨v', rfl, hown, hb⟩
  have hlt3 : w.heap.size < w3.heap.size := Nat.lt_of_lt_of_le hlt2 hb.size
  have c0 := (hb.cell (p := ⟨w.heap.size, 0, none⟩) hlt2).trans d0
  have c1 := (hb.cell (p := ⟨w.heap.size, 1, none⟩) hlt2).trans d1
  have c2 := (hb.cell (p := ⟨w.heap.size, 2, none⟩) hlt2).trans d2
  have HB3 := Lib.hid (HB2.out.trans (hb.mono HB2.out.size))
  clear d0 d1 d2 hb HB2
  have hszw2 : w.heap.size ≤ w3.heap.size := HB3.out.size
  rcases own_forms9 hown with ⟨rfl, hr0⟩ | ⟨gb, cR, rfl, hcR, hcm⟩
  · have hr : rest = [] := List.eq_nil_of_length_eq_zero hr0
    subst hr
    clear hown hr0
    obtain ⟨N, hN⟩ : ∃ N : List Mk, N = [] := ⟨_, rfl⟩
    obtain ⟨Y, hY⟩ : ∃ Y : List Mk, Y = [] := ⟨_, rfl⟩
    have hfin := Lib.hid (show RES = N ++ [(⟨i, a, g⟩ : Mk)] ++ Y by rw [HRES.out, hN, hY]; rfl)
    have HSN0 := Lib.hid (fun V => show Sl mkE V (.slice none 0 0) N by rw [hN]; exact Sl.nil mkE V)
    have HSY0 := Lib.hid (fun V => show Sl mkE V (.slice none 0 0) Y by rw [hY]; exact Sl.nil mkE V)
    have hNl : N.length ≤ 100000 := by rw [hN]; simp
    have hYl : Y.length ≤ 100000 := by rw [hY]; simp
    have hN0 := Lib.hid hN; have hY0 := Lib.hid (show Y.length = 0 by rw [hY]; rfl)
    clear hN hY HRES
    go_wp2_with fail
    refine wp_loop_rounds 1 ?_
    rw [rounds_succ]
    go_wp2_with fail
    go_quiet (fail)
    go_wp2_with fail
    have hszV : w.heap.size ≤ (w3.drewN nq).heap.size := hszw2
    have HBV := Lib.hid (below_drewN HB3.out nq)
    have hltV : w.heap.size < (w3.drewN nq).heap.size := hlt3
    have v0 : (w3.drewN nq).cell? ⟨w.heap.size, 0, none⟩ = some (.int .u32 i) := c0
    have v1 : (w3.drewN nq).cell? ⟨w.heap.size, 1, none⟩ = some (.int .i64 a) := c1
    have v2 : (w3.drewN nq).cell? ⟨w.heap.size, 2, none⟩ = some (.int .u8 g) := c2
    clear c0 c1 c2 HB3
    generalize w3.drewN nq = V at *
    have hneV : ¬ V.heap.size = w.heap.size := by omega
    have HSN := Lib.hid (HSN0.out V)
    have HSY := Lib.hid (HSY0.out V)
    clear HSN0 HSY0
    go_region_law (first
      | (refine stepM1 (V := V) rfl (.tmp 41) (.tmp 44) rfl _ ?_ ?_ ?_ rfl _ N rfl HSN.out hNl ?_
         · first | exact heap_alloc_new _ _ | exact heap_new2 _ _ _ | exact heap_old2 (heap_alloc_new _ _)
         · first | exact Nat.le_refl _ | omega
         · repeat (first | exact Below.refl _ _ | refine bal9 ?_ | refine bdr9 ?_)
         intro A8 c8 w8 HO8 HB8 HG8
         have x0 := (HB8.out.cell (p := ⟨w.heap.size, 0, none⟩) hltV).trans v0
         have x1 := (HB8.out.cell (p := ⟨w.heap.size, 1, none⟩) hltV).trans v1
         have x2 := (HB8.out.cell (p := ⟨w.heap.size, 2, none⟩) hltV).trans v2
         have hs8 := HB8.out.size
         have hne8 : ¬ w8.heap.size = w.heap.size := by omega)
      | (refine stepM2 (V := V) (w8 := w8) rfl (.tmp 45) (.tmp 47) rfl N A8 c8 HO8.out HB8.out ?_ rfl ⟨i, a, g⟩ _ rfl ?_ hNl ?_
         · repeat (first | exact Below.refl _ _ | refine bal9 ?_ | refine bdr9 ?_)
         · first | exact new_cells (E := mkE) w8 (⟨i, a, g⟩ : Mk) _ | exact cellsM1 HG8.out | exact cellsM2 HG8.out
         intro A9 c9 w9 HO9 HB9))
    all_goals
      clear v0 v1 v2 HSN HO8 HB8 HG8 x0 x1 x2 hs8 hne8
      have hs9 := HB9.out.size
      go_wp2_with (at_builtin; refine Hid.out ?_)
      refine Lib.hid ?_
      refine wpListB_append _ rfl (.tmp 49) (.tmp 52) 22 22 rfl V.heap.size hs9 32 i0 _ 3 24 Try.underlying22 hi hz0 hz1 hz2 rfl (by decide) _ _ _ rfl HO9.out _ 0 _ rfl (by have := (HSY.out.ext HB9.out).src Try.underlying22; rw [hY0.out] at this; exact this) ?_ ?_ ?_
      · unfold maxLen; omega
      · omega
      intro A10 c10 w10 hown10 hg10 _ _
      have hbel := HB9.out.grown hg10 hs9 (fun k hk => (HO9.out.lt k hk).1)
      have HE := Lib.hid hown10; have HBel := Lib.hid hbel
      clear hown10 hg10 hbel HSY
      go_wp2
      go_ret2
      exact ⟨_, rfl, by have := own_le HE.out hszV; rw [← mkE.flat_append] at this; rw [hfin.out, List.length_append, List.length_append, List.length_singleton, hY0.out]; exact this, HBV.out.trans (HBel.out.mono hszV)⟩
  · have HS := Lib.hid (Sl.of_own hown)
    have hgb := (hown.lt gb rfl).2
    clear hown
    have C0 := Lib.hid c0; have C1 := Lib.hid c1; have C2 := Lib.hid c2
    clear c0 c1 c2
    go_wp2_with fail
    go_loopw [7] (fun y wr => ∃ k : Nat, k ≤ rest.length ∧ y = .int .i64 k ∧ Hid (∀ t (h : t < rest.length), t < k → rest[t].id < i) ∧ Hid (Below w3.heap.size w3 wr)) (fun y _ => rest.length - (intOf y).toNat)
    case atStart => exact ⟨0, by omega, rfl, Lib.hid (fun t _ ht => absurd ht (Nat.not_lt_zero _)), Lib.hid (Below.refl _ _)⟩
    case round =>
      obtain ⟨k, hk, rfl, hL, hBr⟩ := hrel
      by_cases hlt : k < rest.length
      · obtain ⟨b', off', cap', hv, -, r0, -, -⟩ := (HS.out.ext hBr.out).mk3 hlt
        obtain ⟨rfl, rfl⟩ : gb = b' ∧ 0 = off' := by injection hv with e1 e2 e3; injection e1 with e1; injection e1 with e1 e2; exact ⟨e1, e2⟩
        have y0 := (hBr.out.cell (p := ⟨w.heap.size, 0, none⟩) hlt3).trans C0.out
        have hki : (k : Int) < (rest.length : Int) := by omega
        have dk := decide_eq_true hki
        have dk2 : decide (k < rest.length) = true := decide_eq_true hlt
        rw [Nat.zero_add] at r0
        clear hv
        by_cases q : rest[k].id < i
        · have hL2 := Lib.hid (show ∀ t (h : t < rest.length), t < k + 1 → rest[t].id < i from fun t ht hk' => by
            rcases Nat.lt_or_ge t k with q1 | q1
            · exact hL.out t ht q1
            · obtain rfl : t = k := by omega
              exact q)
          have dq := decide_eq_true q
          clear hL q
          generalize rest[k].id = xi at *
          go_wp2_with fail
          go_quiet (fail)
          go_wp2_with fail
          go_roundw
          case rel => exact ⟨k + 1, by omega, by go_num, hL2, Lib.hid (below_drewN hBr.out _)⟩
          case measure => simp [intOf]; omega
        · have dq := decide_eq_false q
          have PL := Lib.hid (show ∀ h : k < rest.length, i ≤ rest[k].id from fun _ => by omega)
          clear q
          generalize rest[k].id = xi at r0 dq
          have hp := plc_eq i rest k (by omega) (fun t ht hk => hL.out t ht hk) PL.out
          obtain ⟨N, hN⟩ : ∃ N : List Mk, N = rest.take k := ⟨_, rfl⟩
          obtain ⟨Y, hY⟩ : ∃ Y : List Mk, Y = rest.drop k := ⟨_, rfl⟩
          have hfin := Lib.hid (show RES = N ++ [(⟨i, a, g⟩ : Mk)] ++ Y by rw [HRES.out, (plc_cut i rest).1, (plc_cut i rest).2, hp, hN, hY]; simp)
          have hNl : N.length ≤ 100000 := by rw [hN, List.length_take]; omega
          have hYe := Lib.hid (show Y.length = rest.length - k by rw [hY, List.length_drop])
          clear hp hL
          go_wp2_with fail
          go_quiet (fail)
          go_wp2_with fail
          have hBq := below_drewN hBr.out nq
          have hSV := HS.out.ext hBq
          have HBV := Lib.hid (HB3.out.trans (hBq.mono hszw2))
          have HSN := Lib.hid (show Sl mkE (wr.drewN nq) (.slice (some ⟨gb, 0, none⟩) k cR) N by rw [hN]; exact hSV.take9 (by omega) (by omega) hcm)
          have HSY := Lib.hid (show ∀ B, (k < rest.length → B = some ⟨gb, k * 3, none⟩) → Sl mkE (wr.drewN nq) (.slice B (rest.length - k) (cR - k)) Y from fun B hB => by rw [hY]; exact hSV.drop9 (by omega) B (fun h b off e => by injection e with e; injection e with e1 e2; rw [hB h, ← e1, ← e2, Nat.zero_add]) (by omega) (by omega))
          have hltV : w.heap.size < (wr.drewN nq).heap.size := Nat.lt_of_lt_of_le hlt3 hBq.size
          have hszV : w.heap.size ≤ (wr.drewN nq).heap.size := by omega
          have v0 := (hBq.cell (p := ⟨w.heap.size, 0, none⟩) hlt3).trans C0.out
          have v1 := (hBq.cell (p := ⟨w.heap.size, 1, none⟩) hlt3).trans C1.out
          have v2 := (hBq.cell (p := ⟨w.heap.size, 2, none⟩) hlt3).trans C2.out
          clear hBr hBq hSV HB3 HS C0 C1 C2 hN hY HRES y0 r0 PL
          generalize wr.drewN nq = V at *
          have hneV : ¬ V.heap.size = w.heap.size := by omega
          have hkc : k ≤ cR := by omega
          have hki2 : (k : Int) ≤ (rest.length : Int) := by omega
          by_cases hck : cR = k

          · have hnk : rest.length = k := by omega
            have HSY2 := Lib.hid (HSY.out (some ⟨gb, 0, none⟩) (fun h => by omega))
            rw [hck, hnk, Nat.sub_self] at HSY2
            have hY0 := Lib.hid (show Y.length = 0 by have := hYe.out; omega)
            clear HSY hYe
            have hnkh := Lib.hid hnk
            rw [hnk] at *
            subst hck
            clear hnk hnkh
            go_region_law (first
              | (refine stepM1 (V := V) rfl (.tmp 41) (.tmp 44) rfl _ ?_ ?_ ?_ rfl _ N rfl HSN.out hNl ?_
                 · first | exact heap_alloc_new _ _ | exact heap_new2 _ _ _ | exact heap_old2 (heap_alloc_new _ _)
                 · first | exact Nat.le_refl _ | omega
                 · repeat (first | exact Below.refl _ _ | refine bal9 ?_ | refine bdr9 ?_)
                 intro A8 c8 w8 HO8 HB8 HG8
                 have x0 := (HB8.out.cell (p := ⟨w.heap.size, 0, none⟩) hltV).trans v0
                 have x1 := (HB8.out.cell (p := ⟨w.heap.size, 1, none⟩) hltV).trans v1
                 have x2 := (HB8.out.cell (p := ⟨w.heap.size, 2, none⟩) hltV).trans v2
                 have hs8 := HB8.out.size
                 have hne8 : ¬ w8.heap.size = w.heap.size := by omega)
              | (refine stepM2 (V := V) (w8 := w8) rfl (.tmp 45) (.tmp 47) rfl N A8 c8 HO8.out HB8.out ?_ rfl ⟨i, a, g⟩ _ rfl ?_ hNl ?_
                 · repeat (first | exact Below.refl _ _ | refine bal9 ?_ | refine bdr9 ?_)
                 · first | exact new_cells (E := mkE) w8 (⟨i, a, g⟩ : Mk) _ | exact cellsM1 HG8.out | exact cellsM2 HG8.out
                 intro A9 c9 w9 HO9 HB9))
            all_goals
              clear v0 v1 v2 HSN HO8 HB8 HG8 x0 x1 x2 hs8 hne8
              have hs9 := HB9.out.size
              go_wp2_with (at_builtin; refine Hid.out ?_)
              refine Lib.hid ?_
              refine wpListB_append _ rfl (.tmp 49) (.tmp 52) 22 22 rfl V.heap.size hs9 32 i0 _ 3 24 Try.underlying22 hi hz0 hz1 hz2 rfl (by decide) _ _ _ rfl HO9.out _ 0 _ rfl (by have := (HSY2.out.ext HB9.out).src Try.underlying22; rw [hY0.out] at this; exact this) ?_ ?_ ?_
              · unfold maxLen; omega
              · omega
              intro A10 c10 w10 hown10 hg10 _ _
              have hbel := HB9.out.grown hg10 hs9 (fun k hk => (HO9.out.lt k hk).1)
              have HE := Lib.hid hown10; have HBel := Lib.hid hbel
              clear hown10 hg10 hbel HSY2
              go_wp2
              go_ret2
              exact ⟨_, rfl, by have := own_le HE.out hszV; rw [← mkE.flat_append] at this; rw [hfin.out, List.length_append, List.length_append, List.length_singleton, hY0.out]; exact this, HBV.out.trans (HBel.out.mono hszV)⟩
          · have HSY2 := Lib.hid (HSY.out (some ⟨gb, k * 3, none⟩) (fun _ => rfl))
            clear HSY
            go_region_law (first
              | (refine stepM1 (V := V) rfl (.tmp 41) (.tmp 44) rfl _ ?_ ?_ ?_ rfl _ N rfl HSN.out hNl ?_
                 · first | exact heap_alloc_new _ _ | exact heap_new2 _ _ _ | exact heap_old2 (heap_alloc_new _ _)
                 · first | exact Nat.le_refl _ | omega
                 · repeat (first | exact Below.refl _ _ | refine bal9 ?_ | refine bdr9 ?_)
                 intro A8 c8 w8 HO8 HB8 HG8
                 have x0 := (HB8.out.cell (p := ⟨w.heap.size, 0, none⟩) hltV).trans v0
                 have x1 := (HB8.out.cell (p := ⟨w.heap.size, 1, none⟩) hltV).trans v1
                 have x2 := (HB8.out.cell (p := ⟨w.heap.size, 2, none⟩) hltV).trans v2
                 have hs8 := HB8.out.size
                 have hne8 : ¬ w8.heap.size = w.heap.size := by omega)
              | (refine stepM2 (V := V) (w8 := w8) rfl (.tmp 45) (.tmp 47) rfl N A8 c8 HO8.out HB8.out ?_ rfl ⟨i, a, g⟩ _ rfl ?_ hNl ?_
                 · repeat (first | exact Below.refl _ _ | refine bal9 ?_ | refine bdr9 ?_)
                 · first | exact new_cells (E := mkE) w8 (⟨i, a, g⟩ : Mk) _ | exact cellsM1 HG8.out | exact cellsM2 HG8.out
                 intro A9 c9 w9 HO9 HB9))
            all_goals
              clear v0 v1 v2 HSN HO8 HB8 HG8 x0 x1 x2 hs8 hne8
              have hs9 := HB9.out.size
              go_wp2_with (at_builtin; refine Hid.out ?_)
              refine Lib.hid ?_
              refine wpListB_append _ rfl (.tmp 49) (.tmp 52) 22 22 rfl V.heap.size hs9 32 i0 _ 3 24 Try.underlying22 hi hz0 hz1 hz2 rfl (by decide) _ _ _ rfl HO9.out _ (rest.length - k) _ rfl (by have := (HSY2.out.ext HB9.out).src Try.underlying22; rw [hYe.out] at this; exact this) ?_ ?_ ?_
              · unfold maxLen; omega
              · omega
              intro A10 c10 w10 hown10 hg10 _ _
              have hbel := HB9.out.grown hg10 hs9 (fun k hk => (HO9.out.lt k hk).1)
              have HE := Lib.hid hown10; have HBel := Lib.hid hbel
              clear hown10 hg10 hbel HSY2
              go_wp2
              go_ret2
              exact ⟨_, rfl, by have := own_le HE.out hszV; rw [← mkE.flat_append] at this; rw [hfin.out, List.length_append, List.length_append, List.length_singleton, hYe.out]; exact this, HBV.out.trans (HBel.out.mono hszV)⟩
      · have dk : decide ((k : Int) < (rest.length : Int)) = false := decide_eq_false (by omega)
        have dk2 : decide (k < rest.length) = false := decide_eq_false hlt
        have y0 := (hBr.out.cell (p := ⟨w.heap.size, 0, none⟩) hlt3).trans C0.out
        have hp := plc_eq i rest k (by omega) (fun t ht hk => hL.out t ht hk) (fun h => absurd h hlt)
        obtain ⟨N, hN⟩ : ∃ N : List Mk, N = rest.take k := ⟨_, rfl⟩
        obtain ⟨Y, hY⟩ : ∃ Y : List Mk, Y = rest.drop k := ⟨_, rfl⟩
        have hfin := Lib.hid (show RES = N ++ [(⟨i, a, g⟩ : Mk)] ++ Y by rw [HRES.out, (plc_cut i rest).1, (plc_cut i rest).2, hp, hN, hY]; simp)
        have hNl : N.length ≤ 100000 := by rw [hN, List.length_take]; omega
        have hYe := Lib.hid (show Y.length = rest.length - k by rw [hY, List.length_drop])
        clear hp hL
        go_wp2_with fail
        go_quiet (fail)
        go_wp2_with fail
        have hBq := below_drewN hBr.out nq
        have hSV := HS.out.ext hBq
        have HBV := Lib.hid (HB3.out.trans (hBq.mono hszw2))
        have HSN := Lib.hid (show Sl mkE (wr.drewN nq) (.slice (some ⟨gb, 0, none⟩) k cR) N by rw [hN]; exact hSV.take9 (by omega) (by omega) hcm)
        have HSY := Lib.hid (show ∀ B, (k < rest.length → B = some ⟨gb, k * 3, none⟩) → Sl mkE (wr.drewN nq) (.slice B (rest.length - k) (cR - k)) Y from fun B hB => by rw [hY]; exact hSV.drop9 (by omega) B (fun h b off e => by injection e with e; injection e with e1 e2; rw [hB h, ← e1, ← e2, Nat.zero_add]) (by omega) (by omega))
        have hltV : w.heap.size < (wr.drewN nq).heap.size := Nat.lt_of_lt_of_le hlt3 hBq.size
        have hszV : w.heap.size ≤ (wr.drewN nq).heap.size := by omega
        have v0 := (hBq.cell (p := ⟨w.heap.size, 0, none⟩) hlt3).trans C0.out
        have v1 := (hBq.cell (p := ⟨w.heap.size, 1, none⟩) hlt3).trans C1.out
        have v2 := (hBq.cell (p := ⟨w.heap.size, 2, none⟩) hlt3).trans C2.out
        clear hBr hBq hSV HB3 HS C0 C1 C2 hN hY HRES y0
        generalize wr.drewN nq = V at *
        have hneV : ¬ V.heap.size = w.heap.size := by omega
        have hkc : k ≤ cR := by omega
        have hki2 : (k : Int) ≤ (rest.length : Int) := by omega
        by_cases hck : cR = k

        · have hnk : rest.length = k := by omega
          have HSY2 := Lib.hid (HSY.out (some ⟨gb, 0, none⟩) (fun h => by omega))
          rw [hck, hnk, Nat.sub_self] at HSY2
          have hY0 := Lib.hid (show Y.length = 0 by have := hYe.out; omega)
          clear HSY hYe
          have hnkh := Lib.hid hnk
          rw [hnk] at *
          subst hck
          clear hnk hnkh
          go_region_law (first
            | (refine stepM1 (V := V) rfl (.tmp 41) (.tmp 44) rfl _ ?_ ?_ ?_ rfl _ N rfl HSN.out hNl ?_
               · first | exact heap_alloc_new _ _ | exact heap_new2 _ _ _ | exact heap_old2 (heap_alloc_new _ _)
               · first | exact Nat.le_refl _ | omega
               · repeat (first | exact Below.refl _ _ | refine bal9 ?_ | refine bdr9 ?_)
               intro A8 c8 w8 HO8 HB8 HG8
               have x0 := (HB8.out.cell (p := ⟨w.heap.size, 0, none⟩) hltV).trans v0
               have x1 := (HB8.out.cell (p := ⟨w.heap.size, 1, none⟩) hltV).trans v1
               have x2 := (HB8.out.cell (p := ⟨w.heap.size, 2, none⟩) hltV).trans v2
               have hs8 := HB8.out.size
               have hne8 : ¬ w8.heap.size = w.heap.size := by omega)
            | (refine stepM2 (V := V) (w8 := w8) rfl (.tmp 45) (.tmp 47) rfl N A8 c8 HO8.out HB8.out ?_ rfl ⟨i, a, g⟩ _ rfl ?_ hNl ?_
               · repeat (first | exact Below.refl _ _ | refine bal9 ?_ | refine bdr9 ?_)
               · first | exact new_cells (E := mkE) w8 (⟨i, a, g⟩ : Mk) _ | exact cellsM1 HG8.out | exact cellsM2 HG8.out
               intro A9 c9 w9 HO9 HB9))
          all_goals
            clear v0 v1 v2 HSN HO8 HB8 HG8 x0 x1 x2 hs8 hne8
            have hs9 := HB9.out.size
            go_wp2_with (at_builtin; refine Hid.out ?_)
            refine Lib.hid ?_
            refine wpListB_append _ rfl (.tmp 49) (.tmp 52) 22 22 rfl V.heap.size hs9 32 i0 _ 3 24 Try.underlying22 hi hz0 hz1 hz2 rfl (by decide) _ _ _ rfl HO9.out _ 0 _ rfl (by have := (HSY2.out.ext HB9.out).src Try.underlying22; rw [hY0.out] at this; exact this) ?_ ?_ ?_
            · unfold maxLen; omega
            · omega
            intro A10 c10 w10 hown10 hg10 _ _
            have hbel := HB9.out.grown hg10 hs9 (fun k hk => (HO9.out.lt k hk).1)
            have HE := Lib.hid hown10; have HBel := Lib.hid hbel
            clear hown10 hg10 hbel HSY2
            go_wp2
            go_ret2
            exact ⟨_, rfl, by have := own_le HE.out hszV; rw [← mkE.flat_append] at this; rw [hfin.out, List.length_append, List.length_append, List.length_singleton, hY0.out]; exact this, HBV.out.trans (HBel.out.mono hszV)⟩
        · have HSY2 := Lib.hid (HSY.out (some ⟨gb, k * 3, none⟩) (fun _ => rfl))
          clear HSY
          go_region_law (first
            | (refine stepM1 (V := V) rfl (.tmp 41) (.tmp 44) rfl _ ?_ ?_ ?_ rfl _ N rfl HSN.out hNl ?_
               · first | exact heap_alloc_new _ _ | exact heap_new2 _ _ _ | exact heap_old2 (heap_alloc_new _ _)
               · first | exact Nat.le_refl _ | omega
               · repeat (first | exact Below.refl _ _ | refine bal9 ?_ | refine bdr9 ?_)
               intro A8 c8 w8 HO8 HB8 HG8
               have x0 := (HB8.out.cell (p := ⟨w.heap.size, 0, none⟩) hltV).trans v0
               have x1 := (HB8.out.cell (p := ⟨w.heap.size, 1, none⟩) hltV).trans v1
               have x2 := (HB8.out.cell (p := ⟨w.heap.size, 2, none⟩) hltV).trans v2
               have hs8 := HB8.out.size
               have hne8 : ¬ w8.heap.size = w.heap.size := by omega)
            | (refine stepM2 (V := V) (w8 := w8) rfl (.tmp 45) (.tmp 47) rfl N A8 c8 HO8.out HB8.out ?_ rfl ⟨i, a, g⟩ _ rfl ?_ hNl ?_
               · repeat (first | exact Below.refl _ _ | refine bal9 ?_ | refine bdr9 ?_)
               · first | exact new_cells (E := mkE) w8 (⟨i, a, g⟩ : Mk) _ | exact cellsM1 HG8.out | exact cellsM2 HG8.out
               intro A9 c9 w9 HO9 HB9))
          all_goals
            clear v0 v1 v2 HSN HO8 HB8 HG8 x0 x1 x2 hs8 hne8
            have hs9 := HB9.out.size
            go_wp2_with (at_builtin; refine Hid.out ?_)
            refine Lib.hid ?_
            refine wpListB_append _ rfl (.tmp 49) (.tmp 52) 22 22 rfl V.heap.size hs9 32 i0 _ 3 24 Try.underlying22 hi hz0 hz1 hz2 rfl (by decide) _ _ _ rfl HO9.out _ (rest.length - k) _ rfl (by have := (HSY2.out.ext HB9.out).src Try.underlying22; rw [hYe.out] at this; exact this) ?_ ?_ ?_
            · unfold maxLen; omega
            · omega
            intro A10 c10 w10 hown10 hg10 _ _
            have hbel := HB9.out.grown hg10 hs9 (fun k hk => (HO9.out.lt k hk).1)
            have HE := Lib.hid hown10; have HBel := Lib.hid hbel
            clear hown10 hg10 hbel HSY2
            go_wp2
            go_ret2
            exact ⟨_, rfl, by have := own_le HE.out hszV; rw [← mkE.flat_append] at this; rw [hfin.out, List.length_append, List.length_append, List.length_singleton, hYe.out]; exact this, HBV.out.trans (HBel.out.mono hszV)⟩

end Go.Proofs.Ytibmnkdeepmabaa
