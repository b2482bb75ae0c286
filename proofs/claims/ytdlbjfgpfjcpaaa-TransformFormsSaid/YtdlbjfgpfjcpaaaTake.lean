/- compose's take: a part of the next piece. Condition: the reader lies in its block; a valid piece of moderate size. -/
import Derived.Test.YtdlbjfgpfjcpaaaReader2
import Derived.Deep.RegionHeld3
import Derived.Deep.RegionWith
namespace Go.Proofs.Ytdlbjfgpfjcpaaa
open Go.RowKit

theorem Rd.ext {w w' : World} {b d : Nat} {l : List Pc} (h : Rd w b d l) (hb : Below w.heap.size w w') : Rd w' b d l := h.keep (Fr.of_below (T := fun _ => False) hb) id id

theorem dat_set {w : World} {d off : Nat} {p q : Pc} {r : List Pc} (h : Dat w d off (p :: r)) : Dat (w.setCells d off (pcE.cells q)) d off (q :: r) ∧ Fr (· = d) w (w.setCells d off (pcE.cells q)) := by
  obtain ⟨cs, hd, hc⟩ := h
  have hl : (pcE.cells q).length = 3 := pcE.len q
  have hsz : off + 2 < cs.size := (Array.getElem?_eq_some_iff.1 (hc 0 2 p _ rfl rfl)).1
  obtain ⟨cur, h1, h2⟩ := setCells_row d (pcE.cells q) off w cs hd (by omega)
  have ho := setCells_other d (d + 1) (by omega) (pcE.cells q) off w
  refine ⟨⟨cur, h1, fun i j x u hx hu => ?_⟩, ⟨ho.2.2.1, ho.2.2.2.1, ho.2.2.2.2, Nat.le_of_eq ho.2.1.symm, fun k _ hk => (setCells_other d k hk (pcE.cells q) off w).1⟩⟩
  have hj : j < 3 := by
    have := (List.getElem?_eq_some_iff.1 hu).1
    rwa [show (pcE.cells x).length = 3 from pcE.len x] at this
  have hlen : cs.toList.length = cs.size := Array.length_toList
  have ht : (cs.toList.take off).length = off := by rw [List.length_take]; omega
  rw [← Array.getElem?_toList, h2, hl, List.append_assoc, List.getElem?_append_right (by rw [ht]; omega), ht]
  cases i with
  | zero =>
    obtain rfl : q = x := by simpa using hx
    rw [show off + (0 * 3 + j) - off = j by omega, List.getElem?_append_left (by omega)]
    exact hu
  | succ i =>
    have h3 := hc (i + 1) j x u (by simpa using hx) hu
    rw [List.getElem?_append_right (by omega), hl, List.getElem?_drop, show off + 3 + (off + ((i + 1) * 3 + j) - off - 3) = off + ((i + 1) * 3 + j) by omega, Array.getElem?_toList]
    exact h3

theorem set_at {w : World} {g : Nat} {cur : Array Value} {e : TypeId} {fz : Nat × Nat} (h : w.heap[g]? = some (.cells cur e fz)) (o : Nat) (v : Value) : (w.setCell ⟨g, o, none⟩ v).heap[g]? = some (.cells (cur.setIfInBounds o v) e fz) := by
  simp [World.setCell, Array.getElem?_modify, h]
theorem fr3 (w : World) (g : Nat) (a b c : Value) : Fr (fun k => k = g) w (((w.setCell ⟨g, 0, none⟩ a).setCell ⟨g, 1, none⟩ b).setCell ⟨g, 2, none⟩ c) :=
  ((Fr.setCell (fun k => k = g) w ⟨g, 0, none⟩ a rfl).trans (Fr.setCell (fun k => k = g) _ ⟨g, 1, none⟩ b rfl)).trans (Fr.setCell (fun k => k = g) _ ⟨g, 2, none⟩ c rfl)
theorem al_at (w : World) (o : Obj) (k : Nat) : (w.alloc o).heap[k]? = if k = w.heap.size then some o else w.heap[k]? := by
  unfold World.alloc
  exact Array.getElem?_push
theorem dr_at (w : World) (k : Nat) : w.drew.heap[k]? = w.heap[k]? := rfl

set_option maxRecDepth 100000 in
set_option maxHeartbeats 4000000 in
theorem take_part (b d : Nat) (p : Pc) (r : List Pc) (n : Int) (w : World) (h : Rd w b d (p :: r)) (h1 : 0 ≤ n) (h2 : n < lg p) (hv : p.valid = true) (h3 : p.n ≤ 1000000000000) (h4 : p.t.length ≤ 1000000000000) :
    Calls Try.prog 100 #[.pointer (some ⟨b, 0, none⟩), .int .i64 n] w fun e w' => e = .returned (splA p n).v ∧ Rd w' b d (splB p n :: r) ∧ Fr (fun k => k = b ∨ k = d) w w' := by
  have h0 := Val.n hv
  have cH := fun W h => head_any b d p r W h
  have cL := fun W => long_any p W h0 h3 h4
  have cS := fun W => split_any p n W h1 (Int.le_of_lt h2) hv h3 h4
  have h2d : decide (n < lg p) = true := decide_eq_true h2
  have H := Lib.hid h; have CH := Lib.hid cH; have CL := Lib.hid cL; have CS := Lib.hid cS
  clear h cH cL cS hv h3 h4 h0
  unfold Pc.v at *
  generalize lg p = g at *
  generalize splA p n = P at *
  generalize splB p n = Q at *
  go_enter Try.func100, Try.ntmps100
  go_wp2_with fail
  refine (CH.out _ (H.out.keep (fr0 _ _) id id)).mono ?_
  rintro e w1 ⟨rfl, hb⟩
  have H1 := Lib.hid ((H.out.keep (fr0 _ _) id id).ext hb)
  go_wp2_with fail
  obtain ⟨A0, cap0, -, -, -, hq0⟩ := id H.out
  obtain ⟨off0, -, hd0⟩ := hq0 (by simp)
  have hdw := hd0.cell.1
  obtain ⟨A00, cap00, hbb, -⟩ := id H.out
  have hbw := (rd_cell hbb).1
  clear hbb
  have Z1 := Lib.hid (show w1.heap[w.heap.size]? = some (.cells #[.int .u8 0, .int .i64 0, .string ⟨#[]⟩] 31 (0, 0)) from (hb.block _ (heap_lt (heap_alloc_new w _))).trans (heap_alloc_new w _))
  have Z2 := Lib.hid ((Below.heap_alloc w1 (.cells p.cells.toArray 31) _ (heap_lt Z1.out)).trans Z1.out)
  clear hq0 hd0 Z1
  obtain ⟨m0, m1, m2, hs2⟩ := boxAt w1 p 31 (Fr.refl (fun _ => False) _) id
  have H2 := Lib.hid (H1.out.keep (fr0 w1 (.cells p.cells.toArray 31)) id id)
  have B2 := Lib.hid (show Below w.heap.size w (w1.alloc (.cells p.cells.toArray 31)) from ((fr0 w _).trans ((Fr.of_below (T := fun _ => False) hb).trans (fr0 _ _))).below (Nat.le_refl _) (fun _ h => h.elim))
  have L2 : w.heap.size < w1.heap.size := by have := hb.size; simp at this; omega
  change Code.wp _ _ _ _ (w1.alloc (.cells p.cells.toArray 31))
  generalize w1.alloc (.cells p.cells.toArray 31) = W2 at *
  generalize w1.heap.size = s at *
  clear hb H1
  obtain ⟨A, cap, hb2, -⟩ := id H2.out
  obtain ⟨-, -, c1, c2, -⟩ := rd_cell hb2
  have l1 := World.block_lt_of_cell? _ _ c1
  have l2 := World.block_lt_of_cell? _ _ m0
  clear hb2
  go_region_held3 (fun W => Hid (Below W2.heap.size W2 W) ∧ W.cell? ⟨b, 1, none⟩ = some (.func (.func 69) #[] #[]) ∧ W.cell? ⟨s, 0, none⟩ = some (.int .u8 p.k) ∧ W.cell? ⟨s, 1, none⟩ = some (.int .i64 p.n) ∧ W.cell? ⟨s, 2, none⟩ = some (.string ⟨p.t.toArray⟩))
    (refine ⟨?_, ?_, ?_, ?_, ?_⟩ <;> first | assumption | exact And.left (by assumption) | exact Lib.hid (Below.refl _ _) | exact Lib.hid (Below.drew (Below.refl _ _)) | exact Lib.hid (Below.drew (Hid.out (by assumption))) | (simp [*]; done))
    (first | (go_at_call 69; refine (CL.out _).mono ?_; rintro e w' ⟨rfl, hbx⟩
              have hB' : Hid (Below W2.heap.size W2 w') := Lib.hid (Below.trans (Hid.out (And.left (by assumption))) (hbx.mono (Below.size (w := W2) (B := W2.heap.size) (Hid.out (And.left (by assumption))))))
              have k1 := (hB'.out.cell (p := ⟨b, 1, none⟩) l1).trans c1
              have k2 := (hB'.out.cell (p := ⟨s, 0, none⟩) l2).trans m0
              have k3 := (hB'.out.cell (p := ⟨s, 1, none⟩) l2).trans m1
              have k4 := (hB'.out.cell (p := ⟨s, 2, none⟩) l2).trans m2))
  all_goals rename_i hHeld _ _ _
  all_goals (have B3 := Lib.hid (B2.out.trans (hB'.out.mono B2.out.size)); have H3 := Lib.hid (H2.out.ext hB'.out); have c3 := (hB'.out.cell (p := ⟨b, 2, none⟩) l1).trans c2; have L3 : s < w'.heap.size := Nat.lt_of_lt_of_le l2 hB'.out.size; have Z3 := Lib.hid ((hB'.out.block _ (heap_lt Z2.out)).trans Z2.out))
  all_goals clear hbx hB' k1 c1 c2 m0 m1 m2 l1 l2 hs2 H2 B2 CL H CH hHeld
  have l3 := World.block_lt_of_cell? _ _ c3
  go_upto_region 3 with (fail)
  go_cut [6, 7] (fun v6 v7 wr => ∃ f g : Nat, v6 = .pointer (some ⟨f, 0, none⟩) ∧ v7 = .pointer (some ⟨g, 0, none⟩) ∧ f ≠ g ∧ Hid (Below w'.heap.size w' wr) ∧ Hid (w'.heap.size ≤ f ∧ w'.heap.size ≤ g) ∧
    Hid (wr.heap[f]? = some (.cells P.cells.toArray 31 (0, 0)) ∧ wr.heap[g]? = some (.cells Q.cells.toArray 31 (0, 0))))
  case first =>
    go_region_held3 (fun W => W.cell? ⟨b, 2, none⟩ = some (.func (.func 120) #[] #[]) ∧ W.cell? ⟨s, 0, none⟩ = some (.int .u8 p.k) ∧ W.cell? ⟨s, 1, none⟩ = some (.int .i64 p.n) ∧ W.cell? ⟨s, 2, none⟩ = some (.string ⟨p.t.toArray⟩))
      ((refine ⟨(Below.cell (B := w'.heap.size) (w := w') ?_ l3).trans c3, (Below.cell (B := w'.heap.size) (w := w') ?_ L3).trans k2, (Below.cell (B := w'.heap.size) (w := w') ?_ L3).trans k3, (Below.cell (B := w'.heap.size) (w := w') ?_ L3).trans k4⟩) <;> (repeat (first | exact Below.refl _ _ | refine bal ?_ | refine bdr ?_)))
      (first | (go_at_call 120; refine (CS.out _).mono ?_; rintro e w4 ⟨rfl, o1, o2, o3, o4, o5, rfl⟩))
    all_goals go_wp2_with fail
    all_goals go_meet
    all_goals (refine ⟨_, _, rfl, rfl, by omega, Lib.hid (by repeat (first | exact Below.refl _ _ | refine bal ?_ | refine bdr ?_)), Lib.hid (by constructor <;> omega), Lib.hid ?_⟩)
    all_goals (constructor <;> (simp only [al_at, dr_at, World.size_alloc]; repeat (first | rw [if_pos (by omega)] | rw [if_neg (by omega)])) <;> rfl)
  case rest =>
    obtain ⟨f, g1, rfl, rfl, hfg, hB4, hsz, hcs⟩ := hcut
    have H4 := Lib.hid (H3.out.ext hB4.out)
    have B4 := Lib.hid (B3.out.trans (hB4.out.mono B3.out.size))
    have hf1 := heap_lt hcs.out.1
    have hg1 := heap_lt hcs.out.2
    have f0 : wc.cell? ⟨f, 0, none⟩ = some (.int .u8 P.k) := by rw [Lib.cell_of_heap hcs.out.1]; rfl
    have f1 : wc.cell? ⟨f, 1, none⟩ = some (.int .i64 P.n) := by rw [Lib.cell_of_heap hcs.out.1]; rfl
    have f2 : wc.cell? ⟨f, 2, none⟩ = some (.string ⟨P.t.toArray⟩) := by rw [Lib.cell_of_heap hcs.out.1]; rfl
    have g0 : wc.cell? ⟨g1, 0, none⟩ = some (.int .u8 Q.k) := by rw [Lib.cell_of_heap hcs.out.2]; rfl
    have g2 : wc.cell? ⟨g1, 1, none⟩ = some (.int .i64 Q.n) := by rw [Lib.cell_of_heap hcs.out.2]; rfl
    have g3 : wc.cell? ⟨g1, 2, none⟩ = some (.string ⟨Q.t.toArray⟩) := by rw [Lib.cell_of_heap hcs.out.2]; rfl
    obtain ⟨A4, cap4, hb4, q1, q2, q3⟩ := id H4.out
    obtain ⟨hlt4, e0, -, -, fz⟩ := rd_cell hb4
    obtain ⟨off, rfl, hd⟩ := q3 (by simp)
    obtain ⟨hlt5, d0, d1, d2⟩ := hd.cell
    have hfz : ∀ o, wc.frozen? ⟨d, o, none⟩ = false := fun o => by obtain ⟨cs, hd', -⟩ := hd; exact Lib.frozen_of_heap hd' o
    have hn : (0 : Int) < ((r.length + 1 : Nat) : Int) := by omega
    have hn' : 0 < r.length + 1 := by omega
    rw [List.length_cons] at e0
    have HD := Lib.hid hd
    have hfd : f ≠ d := by have := hsz.out.1; have := B3.out.size; omega
    have z4 := (hB4.out.block _ (heap_lt Z3.out)).trans Z3.out
    have hbd : b ≠ d := by
      rintro rfl
      obtain ⟨cs, hd', -⟩ := hd
      rw [hb4] at hd'
      injection hd' with hd'
      injection hd' with _ hd'
      exact absurd hd' (by decide)
    obtain ⟨s1, s2⟩ := dat_set (q := Q) hd
    have R5 := Lib.hid (show Rd ((wc.setCells d off (pcE.cells Q)).drew) b d (Q :: r) from ⟨_, cap4, (s2.block b hlt4 hbd).trans hb4, q1, q2, fun _ => ⟨off, rfl, s1⟩⟩)
    have F5 := Lib.hid (show Fr (fun k => k = b ∨ k = d) w ((wc.setCells d off (pcE.cells Q)).drew) from (Fr.of_below (T := fun k => k = b ∨ k = d) B4.out).trans (s2.mono (fun _ _ h => Or.inr h)).drew)
    have k5 : ∀ o, ((wc.setCells d off (pcE.cells Q)).drew).cell? ⟨f, o, none⟩ = wc.cell? ⟨f, o, none⟩ := fun o => World.cell?_of_block (w := wc) (a := ⟨f, o, none⟩) (s2.block f hf1 hfd)
    have e0' := (k5 0).trans f0
    have e1' := (k5 1).trans f1
    have e2' := (k5 2).trans f2
    have z6 := (s2.drew.block _ (heap_lt z4) (fun e => by omega)).trans z4
    have y0 := Lib.cell_of_heap z6 0
    have y1 := Lib.cell_of_heap z6 1
    have y2 := Lib.cell_of_heap z6 2
    have y3 := fun o => Lib.frozen_of_heap z6 o
    have hw5 := heap_lt z6
    have z5 : wc.heap.size ≤ ((wc.setCells d off (pcE.cells Q)).drew).heap.size := s2.size
    clear z4 hb4 q1 q2 q3 hd hcs c3 k2 k3 k4 l3 L3 h1 h2 h2d CS s1 s2 k5 hbd hfd
    go_wp2_with fail
    go_region
    change Exit.then _ _ _ _ ((wc.setCells d off (pcE.cells Q)).drew)
    generalize (wc.setCells d off (pcE.cells Q)).drew = w5 at *
    clear d0 d1 d2 hfz e0 fz g0 g2 g3 f0 f1 f2 HD H4 hlt5 hn hn'
    simp at y0 y1 y2
    have hf5 : f < w5.heap.size := Nat.lt_of_lt_of_le hf1 z5
    clear z5 hf1 hg1 hlt4 hfg
    go_wp2_with fail
    have F6 := fr3 w5 w.heap.size (.int .u8 P.k) (.int .i64 P.n) (.string ⟨P.t.toArray⟩)
    have R6 := R5.out.keep F6 (fun e => by omega) (fun e => by omega)
    have z7 := set_at (set_at (set_at z6 0 (.int .u8 P.k)) 1 (.int .i64 P.n)) 2 (.string ⟨P.t.toArray⟩)
    have q0 := Lib.cell_of_heap z7 0
    have q1 := Lib.cell_of_heap z7 1
    have q2 := Lib.cell_of_heap z7 2
    have F7 := F5.out.step F6 (fun i hi => .inr (by omega))
    clear F6 z7 z6 y0 y1 y2 y3
    generalize ((w5.setCell ⟨w.heap.size, 0, none⟩ (.int .u8 P.k)).setCell ⟨w.heap.size, 1, none⟩ (.int .i64 P.n)).setCell ⟨w.heap.size, 2, none⟩ (.string ⟨P.t.toArray⟩) = w6 at *
    simp at q0 q1 q2
    exact bodyPost_ret (v := .agg #[.int .u8 P.k, .int .i64 P.n, .string ⟨P.t.toArray⟩]) (by simp [results, Try.f100, go_sem, q0, q1, q2]) rfl ⟨rfl, R6, F7⟩

end Go.Proofs.Ytdlbjfgpfjcpaaa
