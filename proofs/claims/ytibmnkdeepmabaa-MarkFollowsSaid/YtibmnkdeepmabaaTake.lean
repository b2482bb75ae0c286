/- compose's take: a part of the next piece. Condition: the reader lies in its block; a valid piece of moderate size. -/
import Derived.Test.YtibmnkdeepmabaaReader
import Derived.Deep.RegionHeld3
import Derived.Deep.RegionWith
namespace Go.Proofs.Ytibmnkdeepmabaa
open Go.RowKit

theorem Rd.ext {w w' : World} {b d : Nat} {l : List Pc} (h : Rd w b d l) (hb : Below w.heap.size w w') : Rd w' b d l := h.keep (Fr.of_below (T := fun _ => False) hb) id id

theorem dat_set {w : World} {d off : Nat} {p q : Pc} {r : List Pc} (h : Dat w d off (p :: r)) : Dat (w.setCells d off (pcE.cells q)) d off (q :: r) ∧ Fr (· = d) w (w.setCells d off (pcE.cells q)) := by
  obtain ⟨cs, hd, hc⟩ := h
  have hl : (pcE.cells q).length = 3 := pcE.len q
  have hsz : off + 2 < cs.size := (Array.getElem?_eq_some_iff.1 (hc 0 2 p _ rfl rfl)).1
  obtain ⟨cur, h1, h2⟩ := setCells_row d (pcE.cells q) off w cs hd (by omega)
  have ho := setCells_other d (d + 1) (by omega) (pcE.cells q) off w
  refine ⟨⟨cur, h1, fun i j x u hx hu => ?_⟩, ⟨ho.2.2.1, ho.2.2.2.1, ho.2.2.2.2, Nat.le_of_eq ho.2.1.symm, fun k _ hk => (setCells_other d k hk (pcE.cells q) off w).1⟩⟩
  have hj : j < 3 := by
    have := (List.getElem?_eq_some_iff.1 hu).1
    rwa [show (pcE.cells x).length = 3 from pcE.len x] at this
  have hlen : cs.toList.length = cs.size := Array.length_toList
  have ht : (cs.toList.take off).length = off := by rw [List.length_take]; omega
  rw [← Array.getElem?_toList, h2, hl, List.append_assoc, List.getElem?_append_right (by rw [ht]; omega), ht]
  cases i with
  | zero =>
    obtain rfl : q = x := by simpa using hx
    rw [show off + (0 * 3 + j) - off = j by omega, List.getElem?_append_left (by omega)]
    exact hu
  | succ i =>
    have h3 := hc (i + 1) j x u (by simpa using hx) hu
    rw [List.getElem?_append_right (by omega), hl, List.getElem?_drop, show off + 3 + (off + ((i + 1) * 3 + j) - off - 3) = off + ((i + 1) * 3 + j) by omega, Array.getElem?_toList]
    exact h3

theorem set_at {w : World} {g : Nat} {cur : Array Value} {e : TypeId} {fz : Nat × Nat} (h : w.heap[g]? = some (.cells cur e fz)) (o : Nat) (v : Value) : (w.setCell ⟨g, o, none⟩ v).heap[g]? = some (.cells (cur.setIfInBounds o v) e fz) := by
  simp [World.setCell, Array.getElem?_modify, h]
theorem fr3 (w : World) (g : Nat) (a b c : Value) : Fr (fun k => k = g) w (((w.setCell ⟨g, 0, none⟩ a).setCell ⟨g, 1, none⟩ b).setCell ⟨g, 2, none⟩ c) :=
  ((Fr.setCell (fun k => k = g) w ⟨g, 0, none⟩ a rfl).trans (Fr.setCell (fun k => k = g) _ ⟨g, 1, none⟩ b rfl)).trans (Fr.setCell (fun k => k = g) _ ⟨g, 2, none⟩ c rfl)
theorem al_at (w : World) (o : Obj) (k : Nat) : (w.alloc o).heap[k]? = if k = w.heap.size then some o else w.heap[k]? := by
  unfold World.alloc
  exact Array.getElem?_push
theorem dr_at (w : World) (k : Nat) : w.drew.heap[k]? = w.heap[k]? := rfl

set_option maxRecDepth 100000 in
set_option maxHeartbeats 4000000 in
theorem take_part (b d : Nat) (p : Pc) (r : List Pc) (n : Int) (w : World) (h : Rd w b d (p :: r)) (h1 : 0 ≤ n) (h2 : n < lg p) (hv : p.valid = true) (h3 : p.n ≤ 1000000000000) (h4 : p.t.length ≤ 1000000000000) :
    Calls Try.prog 74 #[.pointer (some ⟨b, 0, none⟩), .int .i64 n] w fun e w' => e = .returned (splA p n).v ∧ Rd w' b d (splB p n :: r) ∧ Fr (fun k => k = b ∨ k = d) w w' := by
  have h0 := Val.n hv
  have cH := fun W h => head_any b d p r W h
  have cL := fun W => long_any p W h0 h3 h4
  have cS := fun W => split_any p n W h1 (Int.le_of_lt h2) hv h3 h4
  have h2d : decide (n < lg p) = true := decide_eq_true h2
  have H := Lib.hid h; have CH := Lib.hid cH; have CL := Lib.hid cL; have CS := Lib.hid cS
  clear h cH cL cS hv h3 h4 h0
  unfold Pc.v at *
  generalize lg p = g at *
  generalize splA p n = P at *
  generalize splB p n = Q at *
  go_enter Try.func74, Try.ntmps74
  go_wp2_with fail
  refine (CH.out _ (H.out.keep (fr0 _ _) id id)).mono ?_
  rintro e w1 ⟨rfl, hb⟩
  have H1 := Lib.hid ((H.out.keep (fr0 _ _) id id).ext hb)
  go_wp2_with fail
  obtain ⟨A0, cap0, -, -, -, hq0⟩ := id H.out
  obtain ⟨off0, -, hd0⟩ := hq0 (by simp)
  have hdw := hd0.cell.1
  obtain ⟨A00, cap00, hbb, -⟩ := id H.out
  have hbw := (rd_cell hbb).1
  clear hbb
  have Z1 := Lib.hid (show w1.heap[w.heap.size]? = some (.cells #[.int .u8 0, .int .i64 0, .string ⟨#[]⟩] 53 (0, 0)) from (hb.block _ (heap_lt (heap_alloc_new w _))).trans (heap_alloc_new w _))
  have Z2 := Lib.hid ((Below.heap_alloc w1 (.cells p.cells.toArray 53) _ (heap_lt Z1.out)).trans Z1.out)
  clear hq0 hd0 Z1
  obtain ⟨m0, m1, m2, hs2⟩ := boxAt w1 p 53 (Fr.refl (fun _ => False) _) id
  have H2 := Lib.hid (H1.out.keep (fr0 w1 (.cells p.cells.toArray 53)) id id)
  have B2 := Lib.hid (show Below w.heap.size w (w1.alloc (.cells p.cells.toArray 53)) from ((fr0 w _).trans ((Fr.of_below (T := fun _ => False) hb).trans (fr0 _ _))).below (Nat.le_refl _) (fun _ h => h.elim))
  have L2 : w.heap.size < w1.heap.size := by have := hb.size; simp at this; omega
  change Code.wp _ _ _ _ (w1.alloc (.cells p.cells.toArray 53))
  generalize w1.alloc (.cells p.cells.toArray 53) = W2 at *
  generalize w1.heap.size = s at *
  clear hb H1
  obtain ⟨A, cap, hb2, -⟩ := id H2.out
  obtain ⟨-, -, c1, c2, -⟩ := rd_cell hb2
  have l1 := World.block_lt_of_cell? _ _ c1
  have l2 := World.block_lt_of_cell? _ _ m0
  clear hb2
  go_region_held3 (fun W => Hid (Below W2.heap.size W2 W) ∧ W.cell? ⟨b, 1, none⟩ = some (.func (.func 73) #[] #[]) ∧ W.cell? ⟨s, 0, none⟩ = some (.int .u8 p.k) ∧ W.cell? ⟨s, 1, none⟩ = some (.int .i64 p.n) ∧ W.cell? ⟨s, 2, none⟩ = some (.string ⟨p.t.toArray⟩))
    (refine ⟨?_, ?_, ?_, ?_, ?_⟩ <;> first | assumption | exact And.left (by assumption) | exact Lib.hid (Below.refl _ _) | exact Lib.hid (Below.drew (Below.refl _ _)) | exact Lib.hid (Below.drew (Hid.out (by assumption))) | (simp [*]; done))
    (first | (go_at_call 73; refine (CL.out _).mono ?_; rintro e w' ⟨rfl, hbx⟩
              have hB' : Hid (Below W2.heap.size W2 w') := Lib.hid (Below.trans (Hid.out (And.left (by assumption))) (hbx.mono (Below.size (w := W2) (B := W2.heap.size) (Hid.out (And.left (by assumption))))))
              have k1 := (hB'.out.cell (p := ⟨b, 1, none⟩) l1).trans c1
              have k2 := (hB'.out.cell (p := ⟨s, 0, none⟩) l2).trans m0
              have k3 := (hB'.out.cell (p := ⟨s, 1, none⟩) l2).trans m1
              have k4 := (hB'.out.cell (p := ⟨s, 2, none⟩) l2).trans m2))
  all_goals rename_i hHeld _ _ _
  all_goals (have B3 := Lib.hid (B2.out.trans (hB'.out.mono B2.out.size)); have H3 := Lib.hid (H2.out.ext hB'.out); have c3 := (hB'.out.cell (p := ⟨b, 2, none⟩) l1).trans c2; have L3 : s < w'.heap.size := Nat.lt_of_lt_of_le l2 hB'.out.size; have Z3 := Lib.hid ((hB'.out.block _ (heap_lt Z2.out)).trans Z2.out))
  all_goals clear hbx hB' k1 c1 c2 m0 m1 m2 l1 l2 hs2 H2 B2 CL H CH hHeld
  have l3 := World.block_lt_of_cell? _ _ c3
  go_upto_region 3 with (fail)
  go_cut [6, 7] (fun v6 v7 wr => ∃ f g : Nat, v6 = .pointer (some ⟨f, 0, none⟩) ∧ v7 = .pointer (some ⟨g, 0, none⟩) ∧ f ≠ g ∧ Hid (Below w'.heap.size w' wr) ∧ Hid (w'.heap.size ≤ f ∧ w'.heap.size ≤ g) ∧
    Hid (wr.heap[f]? = some (.cells P.cells.toArray 53 (0, 0)) ∧ wr.heap[g]? = some (.cells Q.cells.toArray 53 (0, 0))))
  case first =>
    go_region_held3 (fun W => W.cell? ⟨b, 2, none⟩ = some (.func (.func 87) #[] #[]) ∧ W.cell? ⟨s, 0, none⟩ = some (.int .u8 p.k) ∧ W.cell? ⟨s, 1, none⟩ = some (.int .i64 p.n) ∧ W.cell? ⟨s, 2, none⟩ = some (.string ⟨p.t.toArray⟩))
      ((refine ⟨(Below.cell (B := w'.heap.size) (w := w') ?_ l3).trans c3, (Below.cell (B := w'.heap.size) (w := w') ?_ L3).trans k2, (Below.cell (B := w'.heap.size) (w := w') ?_ L3).trans k3, (Below.cell (B := w'.heap.size) (w := w') ?_ L3).trans k4⟩) <;> (repeat (first | exact Below.refl _ _ | refine bal ?_ | refine bdr ?_)))
      (first | (go_at_call 87; refine (CS.out _).mono ?_; rintro e w4 ⟨rfl, o1, o2, o3, o4, o5, rfl⟩))
    all_goals go_wp2_with fail
    all_goals go_meet
    all_goals (refine ⟨_, _, rfl, rfl, by omega, Lib.hid (by repeat (first | exact Below.refl _ _ | refine bal ?_ | refine bdr ?_)), Lib.hid (by constructor <;> omega), Lib.hid ?_⟩)
    all_goals (constructor <;> (simp only [al_at, dr_at, World.size_alloc]; repeat (first | rw [if_pos (by omega)] | rw [if_neg (by omega)])) <;> rfl)
  case rest =>
    obtain ⟨f, g1, rfl, rfl, hfg, hB4, hsz, hcs⟩ := hcut
    have H4 := Lib.hid (H3.out.ext hB4.out)
    have B4 := Lib.hid (B3.out.trans (hB4.out.mono B3.out.size))
    have hf1 := heap_lt hcs.out.1
    have hg1 := heap_lt hcs.out.2
    have f0 : wc.cell? ⟨f, 0, none⟩ = some (.int .u8 P.k) := by rw [Lib.cell_of_heap hcs.out.1]; rfl
    have f1 : wc.cell? ⟨f, 1, none⟩ = some (.int .i64 P.n) := by rw [Lib.cell_of_heap hcs.out.1]; rfl
    have f2 : wc.cell? ⟨f, 2, none⟩ = some (.string ⟨P.t.toArray⟩) := by rw [Lib.cell_of_heap hcs.out.1]; rfl
    have g0 : wc.cell? ⟨g1, 0, none⟩ = some (.int .u8 Q.k) := by rw [Lib.cell_of_heap hcs.out.2]; rfl
    have g2 : wc.cell? ⟨g1, 1, none⟩ = some (.int .i64 Q.n) := by rw [Lib.cell_of_heap hcs.out.2]; rfl
    have g3 : wc.cell? ⟨g1, 2, none⟩ = some (.string ⟨Q.t.toArray⟩) := by rw [Lib.cell_of_heap hcs.out.2]; rfl
    obtain ⟨A4, cap4, hb4, q1, q2, q3⟩ := id H4.out
    obtain ⟨hlt4, e0, -, -, fz⟩ := rd_cell hb4
    obtain ⟨off, rfl, hd⟩ := q3 (by simp)
    obtain ⟨hlt5, d0, d1, d2⟩ := hd.cell
    have hfz : ∀ o, wc.frozen? ⟨d, o, none⟩ = false := fun o => by obtain ⟨cs, hd', -⟩ := hd; exact Lib.frozen_of_heap hd' o
    have hn : (0 : Int) < ((r.length + 1 : Nat) : Int) := by omega
    have hn' : 0 < r.length + 1 := by omega
    rw [List.length_cons] at e0
    have HD := Lib.hid hd
    have hfd : f ≠ d := by have := hsz.out.1; have := B3.out.size; omega
    have z4 := (hB4.out.block _ (heap_lt Z3.out)).trans Z3.out
    have hbd : b ≠ d := by
      rintro rfl
      obtain ⟨cs, hd', -⟩ := hd
      rw [hb4] at hd'
      injection hd' with hd'
      injection hd' with _ hd'
      exact absurd hd' (by decide)
    obtain ⟨s1, s2⟩ := dat_set (q := Q) hd
    have R5 := Lib.hid (show Rd ((wc.setCells d off (pcE.cells Q)).drew) b d (Q :: r) from ⟨_, cap4, (s2.block b hlt4 hbd).trans hb4, q1, q2, fun _ => ⟨off, rfl, s1⟩⟩)
    have F5 := Lib.hid (show Fr (fun k => k = b ∨ k = d) w ((wc.setCells d off (pcE.cells Q)).drew) from (Fr.of_below (T := fun k => k = b ∨ k = d) B4.out).trans (s2.mono (fun _ _ h => Or.inr h)).drew)
    have k5 : ∀ o, ((wc.setCells d off (pcE.cells Q)).drew).cell? ⟨f, o, none⟩ = wc.cell? ⟨f, o, none⟩ := fun o => World.cell?_of_block (w := wc) (a := ⟨f, o, none⟩) (s2.block f hf1 hfd)
    have e0' := (k5 0).trans f0
    have e1' := (k5 1).trans f1
    have e2' := (k5 2).trans f2
    have z6 := (s2.drew.block _ (heap_lt z4) (fun e => by omega)).trans z4
    have y0 := Lib.cell_of_heap z6 0
    have y1 := Lib.cell_of_heap z6 1
    have y2 := Lib.cell_of_heap z6 2
    have y3 := fun o => Lib.frozen_of_heap z6 o
    have hw5 := heap_lt z6
    have z5 : wc.heap.size ≤ ((wc.setCells d off (pcE.cells Q)).drew).heap.size := s2.size
    clear z4 hb4 q1 q2 q3 hd hcs c3 k2 k3 k4 l3 L3 h1 h2 h2d CS s1 s2 k5 hbd hfd
    go_wp2_with fail
    go_region
    change Exit.then _ _ _ _ ((wc.setCells d off (pcE.cells Q)).drew)
    generalize (wc.setCells d off (pcE.cells Q)).drew = w5 at *
    clear d0 d1 d2 hfz e0 fz g0 g2 g3 f0 f1 f2 HD H4 hlt5 hn hn'
    simp at y0 y1 y2
    have hf5 : f < w5.heap.size := Nat.lt_of_lt_of_le hf1 z5
    clear z5 hf1 hg1 hlt4 hfg
    go_wp2_with fail
    have F6 := fr3 w5 w.heap.size (.int .u8 P.k) (.int .i64 P.n) (.string ⟨P.t.toArray⟩)
    have R6 := R5.out.keep F6 (fun e => by omega) (fun e => by omega)
    have z7 := set_at (set_at (set_at z6 0 (.int .u8 P.k)) 1 (.int .i64 P.n)) 2 (.string ⟨P.t.toArray⟩)
    have q0 := Lib.cell_of_heap z7 0
    have q1 := Lib.cell_of_heap z7 1
    have q2 := Lib.cell_of_heap z7 2
    have F7 := F5.out.step F6 (fun i hi => .inr (by omega))
    clear F6 z7 z6 y0 y1 y2 y3
    generalize ((w5.setCell ⟨w.heap.size, 0, none⟩ (.int .u8 P.k)).setCell ⟨w.heap.size, 1, none⟩ (.int .i64 P.n)).setCell ⟨w.heap.size, 2, none⟩ (.string ⟨P.t.toArray⟩) = w6 at *
    simp at q0 q1 q2
    exact bodyPost_ret (v := .agg #[.int .u8 P.k, .int .i64 P.n, .string ⟨P.t.toArray⟩]) (by simp [results, Try.f74, go_sem, q0, q1, q2]) rfl ⟨rfl, R6, F7⟩

open Go.RowKit

set_option maxRecDepth 100000 in
set_option maxHeartbeats 4000000 in
theorem take_all (b d : Nat) (p : Pc) (r : List Pc) (n : Int) (w : World) (h : Rd w b d (p :: r)) (h2 : ¬ n < lg p) (hv : p.valid = true) (h3 : p.n ≤ 1000000000000) (h4 : p.t.length ≤ 1000000000000) :
    Calls Try.prog 74 #[.pointer (some ⟨b, 0, none⟩), .int .i64 n] w fun e w' => e = .returned p.v ∧ Rd w' b d r ∧ Fr (fun k => k = b ∨ k = d) w w' := by
  have h0 := Val.n hv
  have cH := fun W h => head_any b d p r W h
  have cL := fun W => long_any p W h0 h3 h4
  have h2d : decide (n < lg p) = false := decide_eq_false h2
  have H := Lib.hid h; have CH := Lib.hid cH; have CL := Lib.hid cL
  clear h cH cL hv h3 h4 h0 h2
  unfold Pc.v at CH CL ⊢
  generalize lg p = g at *
  go_enter Try.func74, Try.ntmps74
  go_wp2_with fail
  refine (CH.out _ (H.out.keep (fr0 _ _) id id)).mono ?_
  rintro e w1 ⟨rfl, hb⟩
  have H1 := Lib.hid ((H.out.keep (fr0 _ _) id id).ext hb)
  go_wp2_with fail
  obtain ⟨A0, cap0, -, -, -, hq0⟩ := id H.out
  obtain ⟨off0, -, hd0⟩ := hq0 (by simp)
  have hdw := hd0.cell.1
  obtain ⟨A00, cap00, hbb, -⟩ := id H.out
  have hbw := (rd_cell hbb).1
  clear hbb
  have Z1 := Lib.hid (show w1.heap[w.heap.size]? = some (.cells #[.int .u8 0, .int .i64 0, .string ⟨#[]⟩] 53 (0, 0)) from (hb.block _ (heap_lt (heap_alloc_new w _))).trans (heap_alloc_new w _))
  have Z2 := Lib.hid ((Below.heap_alloc w1 (.cells p.cells.toArray 53) _ (heap_lt Z1.out)).trans Z1.out)
  clear hq0 hd0 Z1
  obtain ⟨m0, m1, m2, hs2⟩ := boxAt w1 p 53 (Fr.refl (fun _ => False) _) id
  have H2 := Lib.hid (H1.out.keep (fr0 w1 (.cells p.cells.toArray 53)) id id)
  have B2 := Lib.hid (show Below w.heap.size w (w1.alloc (.cells p.cells.toArray 53)) from ((fr0 w _).trans ((Fr.of_below (T := fun _ => False) hb).trans (fr0 _ _))).below (Nat.le_refl _) (fun _ h => h.elim))
  have L2 : w.heap.size < w1.heap.size := by have := hb.size; simp at this; omega
  change Code.wp _ _ _ _ (w1.alloc (.cells p.cells.toArray 53))
  generalize w1.alloc (.cells p.cells.toArray 53) = W2 at *
  generalize w1.heap.size = s at *
  clear hb H1
  obtain ⟨A, cap, hb2, -⟩ := id H2.out
  obtain ⟨-, -, c1, c2, -⟩ := rd_cell hb2
  have l1 := World.block_lt_of_cell? _ _ c1
  have l2 := World.block_lt_of_cell? _ _ m0
  clear hb2
  go_region_held3 (fun W => Hid (Below W2.heap.size W2 W) ∧ W.cell? ⟨b, 1, none⟩ = some (.func (.func 73) #[] #[]) ∧ W.cell? ⟨s, 0, none⟩ = some (.int .u8 p.k) ∧ W.cell? ⟨s, 1, none⟩ = some (.int .i64 p.n) ∧ W.cell? ⟨s, 2, none⟩ = some (.string ⟨p.t.toArray⟩))
    (refine ⟨?_, ?_, ?_, ?_, ?_⟩ <;> first | assumption | exact And.left (by assumption) | exact Lib.hid (Below.refl _ _) | exact Lib.hid (Below.drew (Below.refl _ _)) | exact Lib.hid (Below.drew (Hid.out (by assumption))) | (simp [*]; done))
    (first | (go_at_call 73; refine (CL.out _).mono ?_; rintro e w' ⟨rfl, hbx⟩
              have hB' : Hid (Below W2.heap.size W2 w') := Lib.hid (Below.trans (Hid.out (And.left (by assumption))) (hbx.mono (Below.size (w := W2) (B := W2.heap.size) (Hid.out (And.left (by assumption))))))
              have k1 := (hB'.out.cell (p := ⟨b, 1, none⟩) l1).trans c1
              have k2 := (hB'.out.cell (p := ⟨s, 0, none⟩) l2).trans m0
              have k3 := (hB'.out.cell (p := ⟨s, 1, none⟩) l2).trans m1
              have k4 := (hB'.out.cell (p := ⟨s, 2, none⟩) l2).trans m2))
  all_goals (have B3 := Lib.hid (B2.out.trans (hB'.out.mono B2.out.size)); have H3 := Lib.hid (H2.out.ext hB'.out); have Z3 := Lib.hid ((hB'.out.block _ (heap_lt Z2.out)).trans Z2.out))
  all_goals clear hbx hB' k1 c1 c2 m0 m1 m2 l1 l2 hs2 H2 B2 CL H CH k2 k3 k4 h2d
  all_goals go_wp2_with fail
  refine (whole_any b d p r _ H3.out).mono ?_
  rintro e w5 ⟨rfl, hR, hF⟩
  have z6 := (hF.block _ (heap_lt Z3.out) (fun e => by omega)).trans Z3.out
  have y0 := Lib.cell_of_heap z6 0
  have y1 := Lib.cell_of_heap z6 1
  have y2 := Lib.cell_of_heap z6 2
  have y3 := fun o => Lib.frozen_of_heap z6 o
  have hw5 := heap_lt z6
  have R5 := Lib.hid hR
  have F5 := Lib.hid (show Fr (fun k => k = b ∨ k = d) w w5 from (Fr.of_below (T := fun k => k = b ∨ k = d) B3.out).trans (hF.mono (fun _ _ h => Or.inl h)))
  clear hR hF H3 Z3 Z2 B3
  simp at y0 y1 y2
  unfold Pc.v
  go_wp2_with fail
  have F6 := fr3 w5 w.heap.size (.int .u8 p.k) (.int .i64 p.n) (.string ⟨p.t.toArray⟩)
  have R6 := R5.out.keep F6 (fun e => by omega) (fun e => by omega)
  have z7 := set_at (set_at (set_at z6 0 (.int .u8 p.k)) 1 (.int .i64 p.n)) 2 (.string ⟨p.t.toArray⟩)
  have q0 := Lib.cell_of_heap z7 0
  have q1 := Lib.cell_of_heap z7 1
  have q2 := Lib.cell_of_heap z7 2
  have F7 := F5.out.step F6 (fun i hi => .inr (by omega))
  clear F6 z7 z6 y0 y1 y2 y3
  generalize ((w5.setCell ⟨w.heap.size, 0, none⟩ (.int .u8 p.k)).setCell ⟨w.heap.size, 1, none⟩ (.int .i64 p.n)).setCell ⟨w.heap.size, 2, none⟩ (.string ⟨p.t.toArray⟩) = w6 at *
  simp at q0 q1 q2
  exact bodyPost_ret (v := .agg #[.int .u8 p.k, .int .i64 p.n, .string ⟨p.t.toArray⟩]) (by simp [results, Try.f74, go_sem, q0, q1, q2]) rfl ⟨rfl, R6, F7⟩

/-- take -/
theorem rtake_any (b d : Nat) (p : Pc) (r : List Pc) (n : Int) (w : World) (h : Rd w b d (p :: r)) (h1 : 0 ≤ n) (hv : p.valid = true) (h3 : p.n ≤ 1000000000000) (h4 : p.t.length ≤ 1000000000000) :
    Calls Try.prog 74 #[.pointer (some ⟨b, 0, none⟩), .int .i64 n] w fun e w' => e = .returned (takP n p).v ∧ Rd w' b d (takL n p r) ∧ Fr (fun k => k = b ∨ k = d) w w' := by
  unfold takP takL
  by_cases h2 : n < lg p
  · rw [if_pos h2, if_pos h2]; exact take_part b d p r n w h h1 h2 hv h3 h4
  · rw [if_neg h2, if_neg h2]; exact take_all b d p r n w h h2 hv h3 h4

open Go.RowKit

set_option maxHeartbeats 1000000 in
set_option maxRecDepth 100000 in
theorem read_any (v : Value) (l : List Pc) (w : World) (h : Sl pcE w v l) (hl : l.length * 32 ≤ 140737488355328) :
    Calls Try.prog 69 #[v] w fun e w' => ∃ b d, e = .returned (.pointer (some ⟨b, 0, none⟩)) ∧ Rd w' b d l ∧ w.heap.size ≤ d ∧ d < b ∧ b < w'.heap.size ∧ Below w.heap.size w w' := by
  obtain ⟨i0, hi, hz0, hz1, hz2⟩ := info_parts infoPiece
  have Hl := Lib.hid hl; clear hl
  obtain ⟨A, cap, rfl, -, -, -⟩ := id h
  go_enter Try.func69, Try.ntmps69
  go_wp2_with (
    at_builtin
    refine wpList_append _ rfl (.tmp 3) (.tmp 4) 39 39 rfl 53 i0 _ 3 32 Try.underlying39 hi hz0 hz1 hz2 rfl (by decide) _ _ _ rfl (World.ownsRow_made w #[] 0 (Nat.zero_le _) (by simp [maxLen]) (by simp)) _ _ _ rfl ((h.alloc _).src Try.underlying39) ?_ ?_ ?_
    · have := Hl.out; unfold maxLen; omega
    · have := Hl.out; omega
    intro A5 c5 w5 hown5 hg5 hat5 _
    have HO := Lib.hid hown5; have HG := Lib.hid hg5; have HA := Lib.hid hat5
    clear hown5 hg5 hat5)
  go_ret
  have hs5 := HG.out.size
  simp at hs5
  have hB5 : Below w.heap.size w w5 := ((Below.refl _ _).alloc (Nat.le_refl _) _).grown HG.out (by simp) (fun k hk => by
    have h9 : some w.heap.size = some k := hk
    injection h9 with h9
    omega)
  have hown := HO.out
  rw [List.nil_append, Nat.zero_add] at hown
  have hat := HA.out
  rcases hown.2 with ⟨e, e0⟩ | ⟨g, cap', cur, e, _, hg, hnc, hcm, hcs, htake⟩
  · have e1 : l = [] := List.eq_nil_of_length_eq_zero e0
    subst e1
    injection e with e1 e2 e3
    subst e1 e3
    refine ⟨_, w.heap.size, rfl, ⟨none, 0, ?_, Nat.le_refl _, by simp [maxLen], fun hh => absurd rfl hh⟩, Nat.le_refl _, by omega, by simp, hB5.alloc (by omega) _⟩
    exact heap_alloc_new w5 _
  · injection e with e1 e2 e3
    subst e1 e3
    have hgb : w.heap.size ≤ g := by
      rcases hat with e | e
      · rw [Nat.zero_add] at e
        have h9 : some g = some w.heap.size := e
        injection h9 with h9
        omega
      · rw [Nat.zero_add] at e
        have h9 : some g = some (w.heap.size + 1) := e.trans (by simp)
        injection h9 with h9
        omega
    have hg5 := heap_lt hg
    refine ⟨_, g, rfl, ⟨some ⟨g, 0, none⟩, c5, ?_, hnc, hcm, fun _ => ⟨0, rfl, cur, (Below.heap_alloc w5 _ g hg5).trans hg, fun i j x u hx hu => ?_⟩⟩, hgb, hg5, by simp, hB5.alloc (by omega) _⟩
    · exact heap_alloc_new w5 _
    · have h5 := pcE.flat_at l _ _ _ _ hx hu
      rw [← htake] at h5
      have h6 := (List.getElem?_eq_some_iff.1 h5).1
      rw [List.length_take] at h6
      rw [List.getElem?_take_of_lt (by omega)] at h5
      rw [Nat.zero_add, ← Array.getElem?_toList]
      exact h5

/-- two readers, a row of the call's own, and what was there before -/
structure CS (w0 : World) (B1 b1 d1 b2 d2 : Nat) (X Y O : List Pc) (A : Option Addr) (c : Nat) (w : World) : Prop where
  x : Rd w b1 d1 X
  y : Rd w b2 d2 Y
  o : w.ownsRow B1 53 3 (.slice A O.length c) O.length (pcE.flat O)
  b : Below w0.heap.size w0 w
  s : w0.heap.size ≤ d1 ∧ d1 < b1 ∧ b1 < d2 ∧ d2 < b2 ∧ b2 < B1 ∧ B1 ≤ w.heap.size
theorem CS.ext {w0 : World} {B1 b1 d1 b2 d2 : Nat} {X Y O : List Pc} {A : Option Addr} {c : Nat} {w w' : World} (h : CS w0 B1 b1 d1 b2 d2 X Y O A c w) (hb : Below w.heap.size w w') : CS w0 B1 b1 d1 b2 d2 X Y O A c w' := by
  obtain ⟨x, y, o, b, s⟩ := h
  have := hb.size
  exact ⟨x.ext hb, y.ext hb, own_keepB o (Fr.of_below (T := fun _ => False) hb) (fun _ _ h => h.elim), b.trans (hb.mono b.size), by omega⟩
theorem CS.stepX {w0 : World} {B1 b1 d1 b2 d2 : Nat} {X X' Y O : List Pc} {A : Option Addr} {c : Nat} {w w' : World} (h : CS w0 B1 b1 d1 b2 d2 X Y O A c w) (hr : Rd w' b1 d1 X') (hf : Fr (fun k => k = b1 ∨ k = d1) w w') : CS w0 B1 b1 d1 b2 d2 X' Y O A c w' := by
  obtain ⟨x, y, o, b, s⟩ := h
  have := hf.size
  refine ⟨hr, y.keep hf (by omega) (by omega), own_keepB o hf (fun g hg => ?_), b.trans (hf.below b.size (fun k hk => by omega)), by omega⟩
  have := (o.lt g hg).1
  omega
theorem CS.stepY {w0 : World} {B1 b1 d1 b2 d2 : Nat} {X Y Y' O : List Pc} {A : Option Addr} {c : Nat} {w w' : World} (h : CS w0 B1 b1 d1 b2 d2 X Y O A c w) (hr : Rd w' b2 d2 Y') (hf : Fr (fun k => k = b2 ∨ k = d2) w w') : CS w0 B1 b1 d1 b2 d2 X Y' O A c w' := by
  obtain ⟨x, y, o, b, s⟩ := h
  have := hf.size
  refine ⟨x.keep hf (by omega) (by omega), hr, own_keepB o hf (fun g hg => ?_), b.trans (hf.below b.size (fun k hk => by omega)), by omega⟩
  have := (o.lt g hg).1
  omega
theorem CS.app {w0 : World} {B1 b1 d1 b2 d2 : Nat} {X Y O O' : List Pc} {A A' : Option Addr} {c c' : Nat} {w w' : World} (h : CS w0 B1 b1 d1 b2 d2 X Y O A c w) (ho : w'.ownsRow B1 53 3 (.slice A' O'.length c') O'.length (pcE.flat O')) (hg : w.grownBy w' (Value.slice A O.length c).ownBlock) : CS w0 B1 b1 d1 b2 d2 X Y O' A' c' w' := by
  obtain ⟨x, y, o, b, s⟩ := h
  have hf := Fr.of_grown hg
  have := hf.size
  have hk : ∀ k, some k = (Value.slice A O.length c).ownBlock → B1 ≤ k := fun k hk => (o.lt k hk.symm).1
  refine ⟨x.keep hf (fun e => by have := hk _ e; omega) (fun e => by have := hk _ e; omega), y.keep hf (fun e => by have := hk _ e; omega) (fun e => by have := hk _ e; omega), ho, b.trans (hf.below b.size (fun k e => by have := hk _ e; omega)), by omega⟩

end Go.Proofs.Ytibmnkdeepmabaa
