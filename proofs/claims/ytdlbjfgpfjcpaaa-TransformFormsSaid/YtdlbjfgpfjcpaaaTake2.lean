/- compose's take: the whole next piece; and both ways. Condition: the reader lies in its block; a valid piece of moderate size. -/
import Derived.Test.YtdlbjfgpfjcpaaaTake
namespace Go.Proofs.Ytdlbjfgpfjcpaaa
open Go.RowKit

set_option maxRecDepth 100000 in
set_option maxHeartbeats 4000000 in
theorem take_all (b d : Nat) (p : Pc) (r : List Pc) (n : Int) (w : World) (h : Rd w b d (p :: r)) (h2 : ¬ n < lg p) (hv : p.valid = true) (h3 : p.n ≤ 1000000000000) (h4 : p.t.length ≤ 1000000000000) :
    Calls Try.prog 100 #[.pointer (some ⟨b, 0, none⟩), .int .i64 n] w fun e w' => e = .returned p.v ∧ Rd w' b d r ∧ Fr (fun k => k = b ∨ k = d) w w' := by
  have h0 := Val.n hv
  have cH := fun W h => head_any b d p r W h
  have cL := fun W => long_any p W h0 h3 h4
  have h2d : decide (n < lg p) = false := decide_eq_false h2
  have H := Lib.hid h; have CH := Lib.hid cH; have CL := Lib.hid cL
  clear h cH cL hv h3 h4 h0 h2
  unfold Pc.v at CH CL ⊢
  generalize lg p = g at *
  go_enter Try.func100, Try.ntmps100
  go_wp2_with fail
  refine (CH.out _ (H.out.keep (fr0 _ _) id id)).mono ?_
  rintro e w1 ⟨rfl, hb⟩
  have H1 := Lib.hid ((H.out.keep (fr0 _ _) id id).ext hb)
  go_wp2_with fail
  obtain ⟨A0, cap0, -, -, -, hq0⟩ := id H.out
  obtain ⟨off0, -, hd0⟩ := hq0 (by simp)
  have hdw := hd0.cell.1
  obtain ⟨A00, cap00, hbb, -⟩ := id H.out
  have hbw := (rd_cell hbb).1
  clear hbb
  have Z1 := Lib.hid (show w1.heap[w.heap.size]? = some (.cells #[.int .u8 0, .int .i64 0, .string ⟨#[]⟩] 31 (0, 0)) from (hb.block _ (heap_lt (heap_alloc_new w _))).trans (heap_alloc_new w _))
  have Z2 := Lib.hid ((Below.heap_alloc w1 (.cells p.cells.toArray 31) _ (heap_lt Z1.out)).trans Z1.out)
  clear hq0 hd0 Z1
  obtain ⟨m0, m1, m2, hs2⟩ := boxAt w1 p 31 (Fr.refl (fun _ => False) _) id
  have H2 := Lib.hid (H1.out.keep (fr0 w1 (.cells p.cells.toArray 31)) id id)
  have B2 := Lib.hid (show Below w.heap.size w (w1.alloc (.cells p.cells.toArray 31)) from ((fr0 w _).trans ((Fr.of_below (T := fun _ => False) hb).trans (fr0 _ _))).below (Nat.le_refl _) (fun _ h => h.elim))
  have L2 : w.heap.size < w1.heap.size := by have := hb.size; simp at this; omega
  change Code.wp _ _ _ _ (w1.alloc (.cells p.cells.toArray 31))
  generalize w1.alloc (.cells p.cells.toArray 31) = W2 at *
  generalize w1.heap.size = s at *
  clear hb H1
  obtain ⟨A, cap, hb2, -⟩ := id H2.out
  obtain ⟨-, -, c1, c2, -⟩ := rd_cell hb2
  have l1 := World.block_lt_of_cell? _ _ c1
  have l2 := World.block_lt_of_cell? _ _ m0
  clear hb2
  go_region_held3 (fun W => Hid (Below W2.heap.size W2 W) ∧ W.cell? ⟨b, 1, none⟩ = some (.func (.func 69) #[] #[]) ∧ W.cell? ⟨s, 0, none⟩ = some (.int .u8 p.k) ∧ W.cell? ⟨s, 1, none⟩ = some (.int .i64 p.n) ∧ W.cell? ⟨s, 2, none⟩ = some (.string ⟨p.t.toArray⟩))
    (refine ⟨?_, ?_, ?_, ?_, ?_⟩ <;> first | assumption | exact And.left (by assumption) | exact Lib.hid (Below.refl _ _) | exact Lib.hid (Below.drew (Below.refl _ _)) | exact Lib.hid (Below.drew (Hid.out (by assumption))) | (simp [*]; done))
    (first | (go_at_call 69; refine (CL.out _).mono ?_; rintro e w' ⟨rfl, hbx⟩
              have hB' : Hid (Below W2.heap.size W2 w') := Lib.hid (Below.trans (Hid.out (And.left (by assumption))) (hbx.mono (Below.size (w := W2) (B := W2.heap.size) (Hid.out (And.left (by assumption))))))
              have k1 := (hB'.out.cell (p := ⟨b, 1, none⟩) l1).trans c1
              have k2 := (hB'.out.cell (p := ⟨s, 0, none⟩) l2).trans m0
              have k3 := (hB'.out.cell (p := ⟨s, 1, none⟩) l2).trans m1
              have k4 := (hB'.out.cell (p := ⟨s, 2, none⟩) l2).trans m2))
  all_goals (have B3 := Lib.hid (B2.out.trans (hB'.out.mono B2.out.size)); have H3 := Lib.hid (H2.out.ext hB'.out); have Z3 := Lib.hid ((hB'.out.block _ (heap_lt Z2.out)).trans Z2.out))
  all_goals clear hbx hB' k1 c1 c2 m0 m1 m2 l1 l2 hs2 H2 B2 CL H CH k2 k3 k4 h2d
  all_goals go_wp2_with fail
  refine (whole_any b d p r _ H3.out).mono ?_
  rintro e w5 ⟨rfl, hR, hF⟩
  have z6 := (hF.block _ (heap_lt Z3.out) (fun e => by omega)).trans Z3.out
  have y0 := Lib.cell_of_heap z6 0
  have y1 := Lib.cell_of_heap z6 1
  have y2 := Lib.cell_of_heap z6 2
  have y3 := fun o => Lib.frozen_of_heap z6 o
  have hw5 := heap_lt z6
  have R5 := Lib.hid hR
  have F5 := Lib.hid (show Fr (fun k => k = b ∨ k = d) w w5 from (Fr.of_below (T := fun k => k = b ∨ k = d) B3.out).trans (hF.mono (fun _ _ h => Or.inl h)))
  clear hR hF H3 Z3 Z2 B3
  simp at y0 y1 y2
  unfold Pc.v
  go_wp2_with fail
  have F6 := fr3 w5 w.heap.size (.int .u8 p.k) (.int .i64 p.n) (.string ⟨p.t.toArray⟩)
  have R6 := R5.out.keep F6 (fun e => by omega) (fun e => by omega)
  have z7 := set_at (set_at (set_at z6 0 (.int .u8 p.k)) 1 (.int .i64 p.n)) 2 (.string ⟨p.t.toArray⟩)
  have q0 := Lib.cell_of_heap z7 0
  have q1 := Lib.cell_of_heap z7 1
  have q2 := Lib.cell_of_heap z7 2
  have F7 := F5.out.step F6 (fun i hi => .inr (by omega))
  clear F6 z7 z6 y0 y1 y2 y3
  generalize ((w5.setCell ⟨w.heap.size, 0, none⟩ (.int .u8 p.k)).setCell ⟨w.heap.size, 1, none⟩ (.int .i64 p.n)).setCell ⟨w.heap.size, 2, none⟩ (.string ⟨p.t.toArray⟩) = w6 at *
  simp at q0 q1 q2
  exact bodyPost_ret (v := .agg #[.int .u8 p.k, .int .i64 p.n, .string ⟨p.t.toArray⟩]) (by simp [results, Try.f100, go_sem, q0, q1, q2]) rfl ⟨rfl, R6, F7⟩

/-- take -/
theorem rtake_any (b d : Nat) (p : Pc) (r : List Pc) (n : Int) (w : World) (h : Rd w b d (p :: r)) (h1 : 0 ≤ n) (hv : p.valid = true) (h3 : p.n ≤ 1000000000000) (h4 : p.t.length ≤ 1000000000000) :
    Calls Try.prog 100 #[.pointer (some ⟨b, 0, none⟩), .int .i64 n] w fun e w' => e = .returned (takP n p).v ∧ Rd w' b d (takL n p r) ∧ Fr (fun k => k = b ∨ k = d) w w' := by
  unfold takP takL
  by_cases h2 : n < lg p
  · rw [if_pos h2, if_pos h2]; exact take_part b d p r n w h h1 h2 hv h3 h4
  · rw [if_neg h2, if_neg h2]; exact take_all b d p r n w h h2 hv h3 h4

end Go.Proofs.Ytdlbjfgpfjcpaaa
