/- quartoref09.Shift: what it returns. Condition: the marks and the pieces read as values of their types. -/
import Derived.Test.YtibmnkdeepmabaaMark5
import Derived.Test.YtibmnkdeepmabaaRef6b
import Derived.OneCell
namespace Go.Proofs.Ytibmnkdeepmabaa
open Go.RowKit

theorem MG.alloc {w0 : World} {R : List Mk} {A : Option Addr} {c : Nat} {w : World} (h : MG w0 R A c w) (o : Obj) : MG w0 R A c (w.alloc o) := ⟨h.o.alloc o, h.b.alloc h.b.size o⟩
theorem MG.ext {w0 : World} {R : List Mk} {A : Option Addr} {c : Nat} {w w' : World} (h : MG w0 R A c w) (hb : Below w.heap.size w w') : MG w0 R A c w' := ⟨own_ext h.o hb, h.b.trans (hb.mono h.b.size)⟩
theorem MG.other {w0 : World} {R : List Mk} {A : Option Addr} {c : Nat} {w : World} (h : MG w0 R A c w) {g j : Nat} (hg : w0.heap.size ≤ g) (hn : (Value.slice A R.length c).ownBlock ≠ some g) (x : Value) : MG w0 R A c (w.setCell ⟨g, j, none⟩ x) :=
  ⟨ownsRow_setCell_other h.o (a := ⟨g, j, none⟩) hn x, h.b.setCell (p := ⟨g, j, none⟩) hg x⟩
theorem MG.app {w0 : World} {R R' : List Mk} {A A' : Option Addr} {c c' : Nat} {w w8 : World} (h : MG w0 R A c w) (ho : w8.ownsRow w0.heap.size 32 3 (.slice A' R'.length c') R'.length (mkE.flat R')) (hg : w.grownBy w8 (Value.slice A R.length c).ownBlock) : MG w0 R' A' c' w8 :=
  ⟨ho, h.b.grown hg h.b.size (fun g hg => (h.o.lt g hg).1)⟩

theorem pos_ref {d : List Pc} {l : List Mk} (he : errL d = 0) (hc : chkM (inL d) l = 0) {m : Mk} (hm : m ∈ l) (h : m.wf) : posV d m.a m.g = if m.g = 0 then leftP m.a 0 (runsT false d) else rightP m.a (outL d) (runsT false d) := by
  have := pos_ok he hc hm h
  rw [posE, if_pos he] at this
  rw [posV, if_pos he, movV, if_pos this]

set_option maxHeartbeats 2000000 in
set_option maxRecDepth 100000 in
theorem refShift_ok (v vd : Value) (l : List Mk) (d : List Pc) (w : World) (h : Sl mkE w v l) (hd : ∀ m, m ∈ l → m.wf) (h2 : Sl pcE w vd d) (hd2 : ∀ p, p ∈ d → p.wf) (he : errL d = 0) (hc : chkM (inL d) l = 0) :
    Calls Try.prog 24 #[v, vd] w fun e w' => ∃ v', e = .returned (.tuple #[v', .int .i64 0]) ∧ w'.ownsRow w.heap.size 32 3 v' l.length (mkE.flat (l.map (shM d))) ∧ Below w.heap.size w w' := by
  obtain ⟨i0, hi, hz0, hz1, hz2⟩ := info_parts infoMark
  have cL := fun w h => refLengths_any vd d w h hd2
  rw [lensV_ok he] at cL
  have cC := fun w h => refCheck9_any (inL d) v l w h hd
  rw [hc] at cC
  have hM := (chkM_zero _ _).1 hc
  have hln := hM.len
  have hin := (mod_io he).2.1
  have cP : ∀ (k : Nat) (hk : k < l.length) (w' : World), Sl pcE w' vd d → Calls Try.prog 41 #[vd, .int .i64 l[k].a, .int .u8 l[k].g] w' fun e w'' => e = .returned (.int .i64 (posV d l[k].a l[k].g)) ∧ Below w'.heap.size w' w'' := fun k hk w' hS => by
    have hm := hM.all _ (List.getElem_mem hk)
    have hw := (hd _ (List.getElem_mem hk)).2.2.2.2
    have := refMove_any vd d l[k].a l[k].g w' hS he (by omega) (by omega) (by omega)
    rw [← pos_ref he hc (List.getElem_mem hk) (hd _ (List.getElem_mem hk))] at this
    exact this
  have H := Lib.hid h; have H2 := Lib.hid h2; have CL := Lib.hid cL; have CC := Lib.hid cC; have CP := Lib.hid cP
  have hlen : l.length ≤ 64 := hln
  clear h h2 cL cC cP hd hd2 hc he hM hln hin
  obtain ⟨A, cap0, rfl, -, -, -⟩ := id H.out
  obtain ⟨AD, capd, rfl, -, -, -⟩ := id H2.out
  go_enter Try.func24, Try.ntmps24
  go_wp2_with fail
  refine (CL.out _ H2.out).mono ?_
  rintro e w1 ⟨rfl, hb⟩
  have HB := Lib.hid hb
  clear hb
  go_wp2_with fail
  refine (CC.out _ (H.out.ext HB.out)).mono ?_
  rintro e w2 ⟨rfl, hb⟩
  have HB2 := Lib.hid (HB.out.trans (hb.mono HB.out.size))
  clear hb HB
  go_wp2_with fail
  go_loopw [9, 10] (fun v9 i wr => ∃ (k : Nat) (R : List Mk) (A5 : Option Addr) (c5 : Nat), k ≤ l.length ∧ i = .int .i64 k ∧ v9 = .slice A5 R.length c5 ∧ R.length ≤ k ∧ Hid (R = (l.take k).map (shM d)) ∧ Hid (MG w R A5 c5 wr)) (fun _ i _ => l.length - (intOf i).toNat)
  case atStart => exact ⟨0, [], none, 0, by omega, rfl, rfl, by simp, Lib.hid rfl, Lib.hid ⟨World.ownsRow_nil _ _ _ _, HB2.out⟩⟩
  case round =>
    obtain ⟨k, R, A5, c5, hk, rfl, rfl, hR, hE, hM⟩ := hrel
    have hsz := hM.out.b.size
    by_cases hlt : k < l.length
    · have hsn := Lib.hid (show R ++ [shM d l[k]] = (l.take (k + 1)).map (shM d) by rw [hE.out, List.take_succ_eq_append_getElem hlt, List.map_append]; rfl)
      obtain ⟨b, off, cap', hv, hbw, c0, c1, c2⟩ := (H.out.ext hM.out.b).mk3 hlt
      obtain ⟨rfl, rfl⟩ : A = some ⟨b, off, none⟩ ∧ cap0 = cap' := by injection hv with e1 e2 e3; exact ⟨e1, e3⟩
      have CP2 := Lib.hid (CP.out k hlt)
      have hwr : ∀ g, (Value.slice A5 R.length c5).ownBlock = some g → g < wr.heap.size := fun g hg => (hM.out.o.lt g hg).2
      clear hv hE
      unfold shM at hsn
      generalize posV d l[k].a l[k].g = y at *
      generalize l[k] = m at *
      obtain ⟨i, a, g⟩ := m
      simp only at c0 c1 c2 hsn CP2
      have HW := Lib.hid hwr
      clear hwr
      go_wp2_with fail
      refine (CP2.out _ (H2.out.ext (hM.out.b.alloc hsz _))).mono ?_
      rintro e w3 ⟨rfl, hbq⟩
      obtain ⟨k0, k1, k2⟩ := box3 wr ⟨i, a, g⟩ 32
      have d0 := (hbq.cell (p := ⟨wr.heap.size, 0, none⟩) (by simp)).trans k0
      have d1 := (hbq.cell (p := ⟨wr.heap.size, 1, none⟩) (by simp)).trans k1
      have d2 := (hbq.cell (p := ⟨wr.heap.size, 2, none⟩) (by simp)).trans k2
      have fz := (hbq.frozen (p := ⟨wr.heap.size, 1, none⟩) (by simp))
      have M3 := Lib.hid ((hM.out.alloc (.cells #[.int .u32 i, .int .i64 a, .int .u8 g] 32)).ext hbq)
      have hs3 : wr.heap.size < w3.heap.size := Nat.lt_of_lt_of_le (by simp) hbq.size
      simp only at d0 d1 d2
      clear k0 k1 k2 c0 c1 c2 CP2 hbq
      have M4 := Lib.hid (M3.out.other (g := wr.heap.size) (j := 1) hsz (fun he => absurd (HW.out _ he) (Nat.lt_irrefl _)) (.int .i64 y))
      go_wp2_with (at_builtin; refine Hid.out ?_)
      refine Lib.hid ?_
      refine wpListB_append _ rfl (.tmp 43) (.tmp 45) 22 22 rfl w.heap.size (by have := M4.out.b.size; simp at this ⊢; omega) 32 i0 _ 3 24 Try.underlying22 hi hz0 hz1 hz2 rfl (by decide) _ _ _ rfl (M4.out.o.alloc _) _ 1 _ rfl (src_one mkE Try.underlying22 (off := 0) (⟨i, y, g⟩ : Mk) _ (new_cells_at (E := mkE) _ _ (by simp [World.setCell]) _ _)) ?_ ?_ ?_
      · unfold maxLen; omega
      · omega
      intro A9 c9 w9 hown9 hg9 _ _
      have M9 := Lib.hid (MG.grow (R' := R ++ [⟨i, y, g⟩]) (A' := A9) (c' := c9) M4.out (by rw [List.length_append, mkE.flat_append]; exact hown9) hg9)
      clear hown9 hg9 M4 M3
      go_wp2_with fail
      go_roundw
      case rel => exact ⟨k + 1, R ++ [⟨i, y, g⟩], A9, c9, by omega, by go_num, by simp, by simp; omega, hsn, M9⟩
      case measure => simp [intOf]; omega
    · have E := Lib.hid (show R = l.map (shM d) by rw [hE.out, List.take_of_length_le (by omega)])
      have hRl := Lib.hid (show R.length = l.length by rw [E.out, List.length_map])
      clear hE
      go_wp2
      go_ret2
      exact ⟨_, rfl, by rw [← E.out, ← hRl.out]; exact hM.out.o, hM.out.b⟩

set_option maxHeartbeats 1000000 in
theorem refShift_bad1 (v vd : Value) (d : List Pc) (w : World) (h2 : Sl pcE w vd d) (hd2 : ∀ p, p ∈ d → p.wf) (he : errL d ≠ 0) :
    Calls Try.prog 24 #[v, vd] w fun e w' => e = .returned (.tuple #[.slice none 0 0, .int .i64 (errL d)]) ∧ Below w.heap.size w w' := by
  have cL := fun w h => refLengths_any vd d w h hd2
  have hl := lens_err he
  rw [show lensV d = .tuple #[.int .i64 0, .int .i64 0, .int .i64 (errL d)] by unfold lensV; rw [hl]; rfl] at cL
  have hb : (errL d != 0) = true := by simpa using he
  have hb2 : (errL d == 0) = false := by simpa using he
  generalize errL d = E at *
  have H2 := Lib.hid h2; have CL := Lib.hid cL
  clear h2 cL hl he hd2
  go_enter Try.func24, Try.ntmps24
  go_wp2_with fail
  refine (CL.out _ H2.out).mono ?_
  rintro e w1 ⟨rfl, hb⟩
  go_wp2
  go_ret2
  exact ⟨rfl, hb⟩

set_option maxHeartbeats 1000000 in
theorem refShift_bad2 (v vd : Value) (l : List Mk) (d : List Pc) (w : World) (h : Sl mkE w v l) (hd : ∀ m, m ∈ l → m.wf) (h2 : Sl pcE w vd d) (hd2 : ∀ p, p ∈ d → p.wf) (he : errL d = 0) (hc : chkM (inL d) l ≠ 0) :
    Calls Try.prog 24 #[v, vd] w fun e w' => e = .returned (.tuple #[.slice none 0 0, .int .i64 (chkM (inL d) l)]) ∧ Below w.heap.size w w' := by
  have cL := fun w h => refLengths_any vd d w h hd2
  rw [lensV_ok he] at cL
  have cC := fun w h => refCheck9_any (inL d) v l w h hd
  have hb : (chkM (inL d) l != 0) = true := by simpa using hc
  generalize chkM (inL d) l = E at *
  have H := Lib.hid h; have H2 := Lib.hid h2; have CL := Lib.hid cL; have CC := Lib.hid cC
  clear h h2 cL cC hd hd2 hc he
  go_enter Try.func24, Try.ntmps24
  go_wp2_with fail
  refine (CL.out _ H2.out).mono ?_
  rintro e w1 ⟨rfl, hb⟩
  have HB := Lib.hid hb
  clear hb
  go_wp2_with fail
  refine (CC.out _ (H.out.ext HB.out)).mono ?_
  rintro e w2 ⟨rfl, hb⟩
  go_wp2
  go_ret2
  exact ⟨rfl, HB.out.trans (hb.mono HB.out.size)⟩

theorem refShift_any (v vd : Value) (l : List Mk) (d : List Pc) (w : World) (h : Sl mkE w v l) (hd : ∀ m, m ∈ l → m.wf) (h2 : Sl pcE w vd d) (hd2 : ∀ p, p ∈ d → p.wf) :
    Calls Try.prog 24 #[v, vd] w fun e w' => ∃ v', e = .returned (.tuple #[v', .int .i64 (shE l d)]) ∧ w'.ownsRow w.heap.size 32 3 v' (shR l d).length (mkE.flat (shR l d)) ∧ Below w.heap.size w w' := by
  by_cases he : errL d = 0
  · by_cases hc : chkM (inL d) l = 0
    · have e1 : shE l d = 0 := by rw [shE, if_pos he, hc]
      rw [shR, e1, if_pos rfl, List.length_map]
      exact refShift_ok v vd l d w h hd h2 hd2 he hc
    · have e1 : shE l d = chkM (inL d) l := by rw [shE, if_pos he]
      rw [shR, e1, if_neg hc]
      refine (refShift_bad2 v vd l d w h hd h2 hd2 he hc).mono ?_
      rintro e w' ⟨rfl, hb⟩
      exact ⟨_, rfl, World.ownsRow_nil _ _ _ _, hb⟩
  · have e1 : shE l d = errL d := by rw [shE, if_neg he]
    rw [shR, e1, if_neg he]
    refine (refShift_bad1 v vd d w h2 hd2 he).mono ?_
    rintro e w' ⟨rfl, hb⟩
    exact ⟨_, rfl, World.ownsRow_nil _ _ _ _, hb⟩

end Go.Proofs.Ytibmnkdeepmabaa
