/- transform.texts: an insertion of the first delta, of the second one. Condition: the walk lies in its block. -/
import Derived.Test.YtdlbjfgpfjcpaaaTr3
namespace Go.Proofs.Ytdlbjfgpfjcpaaa
open Go.RowKit

set_option maxHeartbeats 4000000 in
set_option maxRecDepth 100000 in
theorem texts_A {w0 : World} {B1 b d1 d2 : Nat} {f : Bool} {Y O x : List Pc} {A : Option Addr} {c : Nat} (t : List UInt8) (w : World) (h : WK w0 B1 b d1 d2 f (⟨2, 0, t⟩ :: x) Y O A c w) (hf : f = true ∨ kd Y ≠ 2) (hl : O.length ≤ 100000) :
    Calls Try.prog 86 #[.pointer (some ⟨b, 0, none⟩)] w fun e w' => e = .returned fT ∧ ∃ A' c', WK w0 B1 b d1 d2 f x Y (O ++ [⟨1, t.length, []⟩]) A' c' w' := by
  obtain ⟨A1, c1, A2, c2, h⟩ := h.we
  obtain ⟨hlt, e0, e1, e2, e3, fz⟩ := h.cells
  have kx := fun n => kind_any d1 A1 c1 (⟨2, 0, t⟩ :: x) (w.drewN n) h.x
  have ky := fun n => kind_any d2 A2 c2 Y (w.drewN n) h.y
  have hfd : ∀ (t : List UInt8) (w : World), (Instr.field 31 (.agg #[.int .u8 2, .int .i64 0, .string ⟨t.toArray⟩]) 2).run Try.prog w = .ok (.string ⟨t.toArray⟩) w := fun _ _ => by kernel_rfl
  obtain ⟨off, ha, hd⟩ := h.x.2.2 (by simp)
  subst ha
  have cT := fun W c0 fz hlt hd => take_whole b 0 d1 off c1 ⟨2, 0, t⟩ x 0 W c0 fz hlt hd (.inl rfl)
  have cP := fun W A c (h : WK w0 B1 b d1 d2 f x Y O A c W) => put_any ⟨1, t.length, []⟩ W h hl
  have kx' : ∀ n, Calls Try.prog 115 #[.slice (some ⟨d1, off, none⟩) (x.length + 1) c1] (w.drewN n) fun e w' => e = .returned (.int .u8 2) ∧ w' = w.drewN n := kx
  have KX := Lib.hid kx'; have KY := Lib.hid ky
  clear kx kx' ky
  rw [List.length_cons] at e0
  generalize x.length + 1 = n1 at KX e0
  have CT := Lib.hid cT; have CP := Lib.hid cP; have H := Lib.hid h; have HD := Lib.hid hd
  clear cT cP h hd
  unfold Pc.v at CT
  dsimp only at CT
  cases f with
  | true =>
    clear hf
    generalize kd Y = kY at *
    
    go_enter Try.func86, Try.ntmps86
    go_wp2_with fail
    go_quiet (first | (go_at_call_of 115 (Value.slice (some ⟨d1, off, none⟩) n1 c1); exact Calls.quiet_of_same (KX.out _)) | (go_at_call_of 115 (Value.slice A2 Y.length c2); exact Calls.quiet_of_same (KY.out _)))
    have C1 := Lib.hid (H.out.ext (below_drewN (Below.refl _ _) nq))
    have D1 := Lib.hid (HD.out.keep (w' := w.drewN nq) (Fr.of_below (T := fun _ => False) (below_drewN (Below.refl _ _) nq)) id)
    clear H HD KX KY e0 e1 e2 e3 fz hlt
    generalize w.drewN nq = w1 at *
    obtain ⟨hlt, e0, e1, e2, e3, fz⟩ := C1.out.cells
    rw [List.length_cons] at e0
    go_wp2_with fail
    refine (CT.out _ e0 (fz _) hlt D1.out).mono ?_
    rintro e w2 ⟨rfl, hw2⟩
    have C2 := Lib.hid (show WE w0 B1 b d1 d2 true x Y O (tailA d1 off c1) (c1 - 1) A2 c2 A c w2 from by rw [hw2]; exact (C1.out.takeX.alloc _).alloc _)
    clear hw2 C1 D1 e0 e1 e2 e3 fz hlt
    obtain ⟨hlt, e0, e1, e2, e3, fz⟩ := C2.out.cells
    go_wp2_with fail
    refine (CP.out _ _ _ C2.out.wk).mono ?_
    rintro e w3 ⟨rfl, A', c', hwk⟩
    go_wp2
    go_ret
    exact ⟨rfl, A', c', hwk⟩
  | false =>
    have hy' : (kd Y == 2) = false := by rw [beq_eq_false_iff_ne]; exact hf.resolve_left (by simp)
    clear hf
    generalize kd Y = kY at *
    
    go_enter Try.func86, Try.ntmps86
    go_wp2_with fail
    go_quiet (first | (go_at_call_of 115 (Value.slice (some ⟨d1, off, none⟩) n1 c1); exact Calls.quiet_of_same (KX.out _)) | (go_at_call_of 115 (Value.slice A2 Y.length c2); exact Calls.quiet_of_same (KY.out _)))
    have C1 := Lib.hid (H.out.ext (below_drewN (Below.refl _ _) nq))
    have D1 := Lib.hid (HD.out.keep (w' := w.drewN nq) (Fr.of_below (T := fun _ => False) (below_drewN (Below.refl _ _) nq)) id)
    clear H HD KX KY e0 e1 e2 e3 fz hlt
    generalize w.drewN nq = w1 at *
    obtain ⟨hlt, e0, e1, e2, e3, fz⟩ := C1.out.cells
    rw [List.length_cons] at e0
    go_wp2_with fail
    refine (CT.out _ e0 (fz _) hlt D1.out).mono ?_
    rintro e w2 ⟨rfl, hw2⟩
    have C2 := Lib.hid (show WE w0 B1 b d1 d2 false x Y O (tailA d1 off c1) (c1 - 1) A2 c2 A c w2 from by rw [hw2]; exact (C1.out.takeX.alloc _).alloc _)
    clear hw2 C1 D1 e0 e1 e2 e3 fz hlt
    obtain ⟨hlt, e0, e1, e2, e3, fz⟩ := C2.out.cells
    go_wp2_with fail
    refine (CP.out _ _ _ C2.out.wk).mono ?_
    rintro e w3 ⟨rfl, A', c', hwk⟩
    go_wp2
    go_ret
    exact ⟨rfl, A', c', hwk⟩

set_option maxHeartbeats 4000000 in
set_option maxRecDepth 100000 in
theorem texts_B {w0 : World} {B1 b d1 d2 : Nat} {f : Bool} {X O y : List Pc} {A : Option Addr} {c : Nat} (t : List UInt8) (w : World) (h : WK w0 B1 b d1 d2 f X (⟨2, 0, t⟩ :: y) O A c w) (hf : f = false ∨ kd X ≠ 2) (hl : O.length ≤ 100000) :
    Calls Try.prog 86 #[.pointer (some ⟨b, 0, none⟩)] w fun e w' => e = .returned fT ∧ ∃ A' c', WK w0 B1 b d1 d2 f X y (O ++ [⟨2, 0, t⟩]) A' c' w' := by
  obtain ⟨A1, c1, A2, c2, h⟩ := h.we
  obtain ⟨hlt, e0, e1, e2, e3, fz⟩ := h.cells
  have kx := fun n => kind_any d1 A1 c1 X (w.drewN n) h.x
  have ky := fun n => kind_any d2 A2 c2 (⟨2, 0, t⟩ :: y) (w.drewN n) h.y
  have hfd : ∀ (t : List UInt8) (w : World), (Instr.field 31 (.agg #[.int .u8 2, .int .i64 0, .string ⟨t.toArray⟩]) 2).run Try.prog w = .ok (.string ⟨t.toArray⟩) w := fun _ _ => by kernel_rfl
  obtain ⟨off, ha, hd⟩ := h.y.2.2 (by simp)
  subst ha
  have cT := fun W c0 fz hlt hd => take_whole b 1 d2 off c2 ⟨2, 0, t⟩ y 0 W c0 fz hlt hd (.inl rfl)
  have cP := fun W A c (h : WK w0 B1 b d1 d2 f X y O A c W) => put_any ⟨2, 0, t⟩ W h hl
  have ky' : ∀ n, Calls Try.prog 115 #[.slice (some ⟨d2, off, none⟩) (y.length + 1) c2] (w.drewN n) fun e w' => e = .returned (.int .u8 2) ∧ w' = w.drewN n := ky
  have KX := Lib.hid kx; have KY := Lib.hid ky'
  clear kx ky' ky
  rw [List.length_cons] at e1
  generalize y.length + 1 = n1 at KY e1
  have CT := Lib.hid cT; have CP := Lib.hid cP; have H := Lib.hid h; have HD := Lib.hid hd
  clear cT cP h hd
  unfold Pc.v at CT
  dsimp only at CT
  by_cases hx : kd X = 2
  · have hff : f = false := hf.resolve_right (fun h => h hx)
    subst hff
    have hx' : (kd X == 2) = true := by rw [hx]; rfl
    clear hf hx
    generalize kd X = kX at *
    
    go_enter Try.func86, Try.ntmps86
    go_wp2_with fail
    go_quiet (first | (go_at_call_of 115 (Value.slice A1 X.length c1); exact Calls.quiet_of_same (KX.out _)) | (go_at_call_of 115 (Value.slice (some ⟨d2, off, none⟩) n1 c2); exact Calls.quiet_of_same (KY.out _)))
    have C1 := Lib.hid (H.out.ext (below_drewN (Below.refl _ _) nq))
    have D1 := Lib.hid (HD.out.keep (w' := w.drewN nq) (Fr.of_below (T := fun _ => False) (below_drewN (Below.refl _ _) nq)) id)
    clear H HD KX KY e0 e1 e2 e3 fz hlt
    generalize w.drewN nq = w1 at *
    obtain ⟨hlt, e0, e1, e2, e3, fz⟩ := C1.out.cells
    rw [List.length_cons] at e1
    go_wp2_with fail
    refine (CT.out _ e1 (fz _) hlt D1.out).mono ?_
    rintro e w2 ⟨rfl, hw2⟩
    have C2 := Lib.hid (show WE w0 B1 b d1 d2 false X y O A1 c1 (tailA d2 off c2) (c2 - 1) A c w2 from by rw [hw2]; exact (C1.out.takeY.alloc _).alloc _)
    clear hw2 C1 D1 e0 e1 e2 e3 fz hlt
    obtain ⟨hlt, e0, e1, e2, e3, fz⟩ := C2.out.cells
    go_wp2_with fail
    refine (CP.out _ _ _ C2.out.wk).mono ?_
    rintro e w3 ⟨rfl, A', c', hwk⟩
    go_wp2
    go_ret
    exact ⟨rfl, A', c', hwk⟩
  · have hx' : (kd X == 2) = false := by rw [beq_eq_false_iff_ne]; exact hx
    clear hf hx
    generalize kd X = kX at *
    
    go_enter Try.func86, Try.ntmps86
    go_wp2_with fail
    go_quiet (first | (go_at_call_of 115 (Value.slice A1 X.length c1); exact Calls.quiet_of_same (KX.out _)) | (go_at_call_of 115 (Value.slice (some ⟨d2, off, none⟩) n1 c2); exact Calls.quiet_of_same (KY.out _)))
    have C1 := Lib.hid (H.out.ext (below_drewN (Below.refl _ _) nq))
    have D1 := Lib.hid (HD.out.keep (w' := w.drewN nq) (Fr.of_below (T := fun _ => False) (below_drewN (Below.refl _ _) nq)) id)
    clear H HD KX KY e0 e1 e2 e3 fz hlt
    generalize w.drewN nq = w1 at *
    obtain ⟨hlt, e0, e1, e2, e3, fz⟩ := C1.out.cells
    rw [List.length_cons] at e1
    go_wp2_with fail
    refine (CT.out _ e1 (fz _) hlt D1.out).mono ?_
    rintro e w2 ⟨rfl, hw2⟩
    have C2 := Lib.hid (show WE w0 B1 b d1 d2 f X y O A1 c1 (tailA d2 off c2) (c2 - 1) A c w2 from by rw [hw2]; exact (C1.out.takeY.alloc _).alloc _)
    clear hw2 C1 D1 e0 e1 e2 e3 fz hlt
    obtain ⟨hlt, e0, e1, e2, e3, fz⟩ := C2.out.cells
    go_wp2_with fail
    refine (CP.out _ _ _ C2.out.wk).mono ?_
    rintro e w3 ⟨rfl, A', c', hwk⟩
    go_wp2
    go_ret
    exact ⟨rfl, A', c', hwk⟩

end Go.Proofs.Ytdlbjfgpfjcpaaa
