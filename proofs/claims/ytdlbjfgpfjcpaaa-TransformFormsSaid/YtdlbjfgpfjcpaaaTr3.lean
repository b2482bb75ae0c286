/- transform.texts: handles what both deltas insert at an offset. Condition: the walk lies in its block. -/
import Derived.Test.YtdlbjfgpfjcpaaaTr2
import Derived.BigQuiet
namespace Go.Proofs.Ytdlbjfgpfjcpaaa
open Go.RowKit

/-- a walk in block b, with the addresses of its lists -/
structure WE (w0 : World) (B1 b d1 d2 : Nat) (f : Bool) (X Y O : List Pc) (A1 : Option Addr) (c1 : Nat) (A2 : Option Addr) (c2 : Nat) (A : Option Addr) (c : Nat) (w : World) : Prop where
  e : w.heap[b]? = some (wkObj A1 X.length c1 A2 Y.length c2 f A O.length c)
  x : At w d1 A1 c1 X
  y : At w d2 A2 c2 Y
  o : w.ownsRow B1 31 3 (.slice A O.length c) O.length (pcE.flat O)
  bl : Below w0.heap.size w0 w
  sx : X ≠ [] → w0.heap.size ≤ d1 ∧ d1 < b
  sy : Y ≠ [] → w0.heap.size ≤ d2 ∧ d2 < b
  sd : X ≠ [] → Y ≠ [] → d1 ≠ d2
  s : w0.heap.size ≤ b ∧ b < B1 ∧ B1 ≤ w.heap.size
section
variable {w0 : World} {B1 b d1 d2 : Nat} {f : Bool} {X Y O : List Pc} {A1 : Option Addr} {c1 : Nat} {A2 : Option Addr} {c2 : Nat} {A : Option Addr} {c : Nat} {w w' : World}
theorem WE.wk (h : WE w0 B1 b d1 d2 f X Y O A1 c1 A2 c2 A c w) : WK w0 B1 b d1 d2 f X Y O A c w := ⟨⟨A1, c1, A2, c2, h.e, h.x, h.y⟩, h.o, h.bl, h.sx, h.sy, h.sd, h.s⟩
theorem WK.we (h : WK w0 B1 b d1 d2 f X Y O A c w) : ∃ A1 c1 A2 c2, WE w0 B1 b d1 d2 f X Y O A1 c1 A2 c2 A c w := by
  obtain ⟨⟨A1, c1, A2, c2, e, x, y⟩, o, bl, sx, sy, sd, s⟩ := h
  exact ⟨A1, c1, A2, c2, e, x, y, o, bl, sx, sy, sd, s⟩
theorem WE.ext (h : WE w0 B1 b d1 d2 f X Y O A1 c1 A2 c2 A c w) (hb : Below w.heap.size w w') : WE w0 B1 b d1 d2 f X Y O A1 c1 A2 c2 A c w' := by
  obtain ⟨e, hx, hy, o, b', sx, sy, sd, s⟩ := h
  have := hb.size
  have hf := Fr.of_below (T := fun _ => False) hb
  exact ⟨(hf.block _ (heap_lt e) id).trans e, hx.keep hf (fun _ => id), hy.keep hf (fun _ => id), own_keepB o hf (fun _ _ h => h.elim), b'.trans (hb.mono b'.size), sx, sy, sd, by omega⟩
theorem WE.alloc (h : WE w0 B1 b d1 d2 f X Y O A1 c1 A2 c2 A c w) (o : Obj) : WE w0 B1 b d1 d2 f X Y O A1 c1 A2 c2 A c (w.alloc o) := h.ext (bal (Below.refl _ _))
theorem WE.drew (h : WE w0 B1 b d1 d2 f X Y O A1 c1 A2 c2 A c w) : WE w0 B1 b d1 d2 f X Y O A1 c1 A2 c2 A c w.drew := h.ext (bdr (Below.refl _ _))
theorem WE.cells (h : WE w0 B1 b d1 d2 f X Y O A1 c1 A2 c2 A c w) :
    b < w.heap.size ∧ w.cell? ⟨b, 0, none⟩ = some (.slice A1 X.length c1) ∧ w.cell? ⟨b, 1, none⟩ = some (.slice A2 Y.length c2) ∧ w.cell? ⟨b, 2, none⟩ = some (.bool f) ∧
      w.cell? ⟨b, 3, none⟩ = some (.slice A O.length c) ∧ (∀ o, w.frozen? ⟨b, o, none⟩ = false) := by
  have e := h.e
  exact ⟨heap_lt e, by rw [Lib.cell_of_heap e]; rfl, by rw [Lib.cell_of_heap e]; rfl, by rw [Lib.cell_of_heap e]; rfl, by rw [Lib.cell_of_heap e]; rfl, fun o => Lib.frozen_of_heap e o⟩
/-- behind a whole piece -/
theorem WE.takeX {p : Pc} {x : List Pc} {off : Nat} (h : WE w0 B1 b d1 d2 f (p :: x) Y O (some ⟨d1, off, none⟩) c1 A2 c2 A c w) :
    WE w0 B1 b d1 d2 f x Y O (tailA d1 off c1) (c1 - 1) A2 c2 A c (w.setCell ⟨b, 0, none⟩ (.slice (tailA d1 off c1) x.length (c1 - 1))) := by
  obtain ⟨e, ⟨q1, q2, q3⟩, hy, o, bl, sx, sy, sd, s⟩ := h
  obtain ⟨off', eo, hd⟩ := q3 (by simp)
  injection eo with eo
  injection eo with _ eo
  subst eo
  have s1 := sx (by simp)
  rw [List.length_cons] at q1
  have hs := Fr.setCell (fun k => k = b) w ⟨b, 0, none⟩ (.slice (tailA d1 off c1) x.length (c1 - 1)) rfl
  have hs2 := hs.size
  refine ⟨?_, (at_tail hd q1 q2).keep hs (fun _ hh => by omega), hy.keep hs (fun hl hh => by have := sy hl; omega), own_keepB o hs (fun g hg hh => by have := (o.lt g hg).1; omega), bl.trans (hs.below bl.size (fun k hh => by omega)), fun _ => s1, sy, fun _ hl => sd (by simp) hl, by omega⟩
  have := set_at e 0 (.slice (tailA d1 off c1) x.length (c1 - 1))
  rw [this]
  rfl
theorem WE.takeY {q : Pc} {y : List Pc} {off : Nat} (h : WE w0 B1 b d1 d2 f X (q :: y) O A1 c1 (some ⟨d2, off, none⟩) c2 A c w) :
    WE w0 B1 b d1 d2 f X y O A1 c1 (tailA d2 off c2) (c2 - 1) A c (w.setCell ⟨b, 1, none⟩ (.slice (tailA d2 off c2) y.length (c2 - 1))) := by
  obtain ⟨e, hx, ⟨q1, q2, q3⟩, o, bl, sx, sy, sd, s⟩ := h
  obtain ⟨off', eo, hd⟩ := q3 (by simp)
  injection eo with eo
  injection eo with _ eo
  subst eo
  have s1 := sy (by simp)
  rw [List.length_cons] at q1
  have hs := Fr.setCell (fun k => k = b) w ⟨b, 1, none⟩ (.slice (tailA d2 off c2) y.length (c2 - 1)) rfl
  have hs2 := hs.size
  refine ⟨?_, hx.keep hs (fun hl hh => by have := sx hl; omega), (at_tail hd q1 q2).keep hs (fun _ hh => by omega), own_keepB o hs (fun g hg hh => by have := (o.lt g hg).1; omega), bl.trans (hs.below bl.size (fun k hh => by omega)), sx, fun _ => s1, fun hl _ => sd hl (by simp), by omega⟩
  have := set_at e 1 (.slice (tailA d2 off c2) y.length (c2 - 1))
  rw [this]
  rfl
/-- within a piece -/
theorem WE.cutX {p : Pc} {x : List Pc} {off : Nat} (h : WE w0 B1 b d1 d2 f (p :: x) Y O (some ⟨d1, off, none⟩) c1 A2 c2 A c w) (m : Int) :
    WE w0 B1 b d1 d2 f (⟨p.k, m, p.t⟩ :: x) Y O (some ⟨d1, off, none⟩) c1 A2 c2 A c (w.setCell ⟨d1, off + 1, none⟩ (.int .i64 m)) := by
  obtain ⟨e, ⟨q1, q2, q3⟩, hy, o, bl, sx, sy, sd, s⟩ := h
  obtain ⟨off', eo, hd⟩ := q3 (by simp)
  injection eo with eo
  injection eo with _ eo
  subst eo
  have s1 := sx (by simp)
  have hs := Fr.setCell (fun k => k = d1) w ⟨d1, off + 1, none⟩ (.int .i64 m) rfl
  have hs2 := hs.size
  exact ⟨(hs.block b (heap_lt e) (fun hh => by omega)).trans e, ⟨q1, q2, fun _ => ⟨off, rfl, dat_setN hd m⟩⟩, hy.keep hs (fun hl hh => sd (by simp) hl hh.symm), own_keepB o hs (fun g hg hh => by have := (o.lt g hg).1; omega), bl.trans (hs.below bl.size (fun k hh => by omega)), fun _ => s1, sy, fun _ hl => sd (by simp) hl, by omega⟩
theorem WE.cutY {q : Pc} {y : List Pc} {off : Nat} (h : WE w0 B1 b d1 d2 f X (q :: y) O A1 c1 (some ⟨d2, off, none⟩) c2 A c w) (m : Int) :
    WE w0 B1 b d1 d2 f X (⟨q.k, m, q.t⟩ :: y) O A1 c1 (some ⟨d2, off, none⟩) c2 A c (w.setCell ⟨d2, off + 1, none⟩ (.int .i64 m)) := by
  obtain ⟨e, hx, ⟨q1, q2, q3⟩, o, bl, sx, sy, sd, s⟩ := h
  obtain ⟨off', eo, hd⟩ := q3 (by simp)
  injection eo with eo
  injection eo with _ eo
  subst eo
  have s1 := sy (by simp)
  have hs := Fr.setCell (fun k => k = d2) w ⟨d2, off + 1, none⟩ (.int .i64 m) rfl
  have hs2 := hs.size
  exact ⟨(hs.block b (heap_lt e) (fun hh => by omega)).trans e, hx.keep hs (fun hl hh => sd hl (by simp) hh), ⟨q1, q2, fun _ => ⟨off, rfl, dat_setN hd m⟩⟩, own_keepB o hs (fun g hg hh => by have := (o.lt g hg).1; omega), bl.trans (hs.below bl.size (fun k hh => by omega)), sx, fun _ => s1, fun hl _ => sd hl (by simp), by omega⟩
/-- a cell of a new block -/
theorem WE.store (h : WE w0 B1 b d1 d2 f X Y O A1 c1 A2 c2 A c w) (g o : Nat) (v : Value) (hg : B1 ≤ g) (ho : ∀ k, (Value.slice A O.length c).ownBlock = some k → k < g) : WE w0 B1 b d1 d2 f X Y O A1 c1 A2 c2 A c (w.setCell ⟨g, o, none⟩ v) := by
  obtain ⟨e, hx, hy, o', bl, sx, sy, sd, s⟩ := h
  have hs := Fr.setCell (fun k => k = g) w ⟨g, o, none⟩ v rfl
  have hs2 := hs.size
  exact ⟨(hs.block b (heap_lt e) (fun hh => by omega)).trans e, hx.keep hs (fun hl hh => by have := sx hl; omega), hy.keep hs (fun hl hh => by have := sy hl; omega), own_keepB o' hs (fun k hk hh => by have := ho k hk; omega), bl.trans (hs.below bl.size (fun k hh => by omega)), sx, sy, sd, by omega⟩
end
def fT : Value := .func (.func 86) #[] #[]
def fB : Value := .func (.func 118) #[] #[]

set_option maxHeartbeats 4000000 in
set_option maxRecDepth 100000 in
theorem texts_N {w0 : World} {B1 b d1 d2 : Nat} {f : Bool} {X Y O : List Pc} {A : Option Addr} {c : Nat} (w : World) (h : WK w0 B1 b d1 d2 f X Y O A c w) (hx : kd X ≠ 2) (hy : kd Y ≠ 2) :
    Calls Try.prog 86 #[.pointer (some ⟨b, 0, none⟩)] w fun e w' => e = .returned fB ∧ WK w0 B1 b d1 d2 f X Y O A c w' := by
  obtain ⟨A1, c1, A2, c2, h⟩ := h.we
  obtain ⟨hlt, e0, e1, e2, e3, fz⟩ := h.cells
  have kx := fun n => kind_any d1 A1 c1 X (w.drewN n) h.x
  have ky := fun n => kind_any d2 A2 c2 Y (w.drewN n) h.y
  have hx' : (kd X == 2) = false := by rw [beq_eq_false_iff_ne]; exact hx
  have hy' : (kd Y == 2) = false := by rw [beq_eq_false_iff_ne]; exact hy
  have KX := Lib.hid kx; have KY := Lib.hid ky; have H := Lib.hid h
  clear kx ky h hx hy
  generalize kd X = kX at *
  generalize kd Y = kY at *
  go_enter Try.func86, Try.ntmps86
  go_wp2_with fail
  go_quiet (first | (go_at_call_of 115 (Value.slice A1 X.length c1); exact Calls.quiet_of_same (KX.out _)) | (go_at_call_of 115 (Value.slice A2 Y.length c2); exact Calls.quiet_of_same (KY.out _)))
  have C1 := Lib.hid (H.out.ext (below_drewN (Below.refl _ _) nq))
  clear H KX KY e0 e1 e2 e3 fz hlt
  generalize w.drewN nq = w1 at *
  obtain ⟨hlt, e0, e1, e2, e3, fz⟩ := C1.out.cells
  go_wp2
  go_ret
  exact ⟨rfl, C1.out.wk⟩

end Go.Proofs.Ytdlbjfgpfjcpaaa
