/- transform.texts: an insertion of the first delta, of the second one. Condition: the walk lies in its block. -/
import Derived.Test.YtdlbjfgpfjcpaaaTr1
namespace Go.Proofs.Ytdlbjfgpfjcpaaa
open Go.RowKit

set_option maxHeartbeats 4000000 in
set_option maxRecDepth 100000 in
theorem texts_A {w0 : World} {B1 b d1 d2 : Nat} {f : Bool} {Y O x : List Pc} {A : Option Addr} {c : Nat} (t : List UInt8) (w : World) (h : WK w0 B1 b d1 d2 f (⟨2, 0, t⟩ :: x) Y O A c w) (hf : f = true ∨ kd Y ≠ 2) (hl : O.length ≤ 100000) :
    Calls Try.prog 86 #[.pointer (some ⟨b, 0, none⟩)] w fun e w' => e = .returned fT ∧ ∃ A' c', WK w0 B1 b d1 d2 f x Y (O ++ [⟨1, t.length, []⟩]) A' c' w' := by
  obtain ⟨A1, c1, A2, c2, h⟩ := h.we
  obtain ⟨hlt, e0, e1, e2, e3, fz⟩ := h.cells
  have kx := fun n => kind_any d1 A1 c1 (⟨2, 0, t⟩ :: x) (w.drewN n) h.x
  have ky := fun n => kind_any d2 A2 c2 Y (w.drewN n) h.y
  have hfd : ∀ (t : List UInt8) (w : World), (Instr.field 31 (.agg #[.int .u8 2, .int .i64 0, .string ⟨t.toArray⟩]) 2).run Try.prog w = .ok (.string ⟨t.toArray⟩) w := fun _ _ => by kernel_rfl
  obtain ⟨off, ha, hd⟩ := h.x.2.2 (by simp)
  subst ha
  have cT := fun W c0 fz hlt hd => take_whole b 0 d1 off c1 ⟨2, 0, t⟩ x 0 W c0 fz hlt hd (.inl rfl)
  have cP := fun W A c (h : WK w0 B1 b d1 d2 f x Y O A c W) => put_any ⟨1, t.length, []⟩ W h hl
  have kx' : ∀ n, Calls Try.prog 115 #[.slice (some ⟨d1, off, none⟩) (x.length + 1) c1] (w.drewN n) fun e w' => e = .returned (.int .u8 2) ∧ w' = w.drewN n := kx
  have KX := Lib.hid kx'; have KY := Lib.hid ky
  clear kx kx' ky
  rw [List.length_cons] at e0
  generalize x.length + 1 = n1 at KX e0
  have CT := Lib.hid cT; have CP := Lib.hid cP; have H := Lib.hid h; have HD := Lib.hid hd
  clear cT cP h hd
  unfold Pc.v at CT
  dsimp only at CT
  cases f with
  | true =>
    clear hf
    generalize kd Y = kY at *
    
    go_enter Try.func86, Try.ntmps86
    go_wp2_with fail
    go_quiet (first | (go_at_call_of 115 (Value.slice (some ⟨d1, off, none⟩) n1 c1); exact Calls.quiet_of_same (KX.out _)) | (go_at_call_of 115 (Value.slice A2 Y.length c2); exact Calls.quiet_of_same (KY.out _)))
    have C1 := Lib.hid (H.out.ext (below_drewN (Below.refl _ _) nq))
    have D1 := Lib.hid (HD.out.keep (w' := w.drewN nq) (Fr.of_below (T := fun _ => False) (below_drewN (Below.refl _ _) nq)) id)
    clear H HD KX KY e0 e1 e2 e3 fz hlt
    generalize w.drewN nq = w1 at *
    obtain ⟨hlt, e0, e1, e2, e3, fz⟩ := C1.out.cells
    rw [List.length_cons] at e0
    go_wp2_with fail
    refine (CT.out _ e0 (fz _) hlt D1.out).mono ?_
    rintro e w2 ⟨rfl, hw2⟩
    have C2 := Lib.hid (show WE w0 B1 b d1 d2 true x Y O (tailA d1 off c1) (c1 - 1) A2 c2 A c w2 from by rw [hw2]; exact (C1.out.takeX.alloc _).alloc _)
    clear hw2 C1 D1 e0 e1 e2 e3 fz hlt
    obtain ⟨hlt, e0, e1, e2, e3, fz⟩ := C2.out.cells
    go_wp2_with fail
    refine (CP.out _ _ _ C2.out.wk).mono ?_
    rintro e w3 ⟨rfl, A', c', hwk⟩
    go_wp2
    go_ret
    exact ⟨rfl, A', c', hwk⟩
  | false =>
    have hy' : (kd Y == 2) = false := by rw [beq_eq_false_iff_ne]; exact hf.resolve_left (by simp)
    clear hf
    generalize kd Y = kY at *
    
    go_enter Try.func86, Try.ntmps86
    go_wp2_with fail
    go_quiet (first | (go_at_call_of 115 (Value.slice (some ⟨d1, off, none⟩) n1 c1); exact Calls.quiet_of_same (KX.out _)) | (go_at_call_of 115 (Value.slice A2 Y.length c2); exact Calls.quiet_of_same (KY.out _)))
    have C1 := Lib.hid (H.out.ext (below_drewN (Below.refl _ _) nq))
    have D1 := Lib.hid (HD.out.keep (w' := w.drewN nq) (Fr.of_below (T := fun _ => False) (below_drewN (Below.refl _ _) nq)) id)
    clear H HD KX KY e0 e1 e2 e3 fz hlt
    generalize w.drewN nq = w1 at *
    obtain ⟨hlt, e0, e1, e2, e3, fz⟩ := C1.out.cells
    rw [List.length_cons] at e0
    go_wp2_with fail
    refine (CT.out _ e0 (fz _) hlt D1.out).mono ?_
    rintro e w2 ⟨rfl, hw2⟩
    have C2 := Lib.hid (show WE w0 B1 b d1 d2 false x Y O (tailA d1 off c1) (c1 - 1) A2 c2 A c w2 from by rw [hw2]; exact (C1.out.takeX.alloc _).alloc _)
    clear hw2 C1 D1 e0 e1 e2 e3 fz hlt
    obtain ⟨hlt, e0, e1, e2, e3, fz⟩ := C2.out.cells
    go_wp2_with fail
    refine (CP.out _ _ _ C2.out.wk).mono ?_
    rintro e w3 ⟨rfl, A', c', hwk⟩
    go_wp2
    go_ret
    exact ⟨rfl, A', c', hwk⟩

set_option maxHeartbeats 4000000 in
set_option maxRecDepth 100000 in
theorem texts_B {w0 : World} {B1 b d1 d2 : Nat} {f : Bool} {X O y : List Pc} {A : Option Addr} {c : Nat} (t : List UInt8) (w : World) (h : WK w0 B1 b d1 d2 f X (⟨2, 0, t⟩ :: y) O A c w) (hf : f = false ∨ kd X ≠ 2) (hl : O.length ≤ 100000) :
    Calls Try.prog 86 #[.pointer (some ⟨b, 0, none⟩)] w fun e w' => e = .returned fT ∧ ∃ A' c', WK w0 B1 b d1 d2 f X y (O ++ [⟨2, 0, t⟩]) A' c' w' := by
  obtain ⟨A1, c1, A2, c2, h⟩ := h.we
  obtain ⟨hlt, e0, e1, e2, e3, fz⟩ := h.cells
  have kx := fun n => kind_any d1 A1 c1 X (w.drewN n) h.x
  have ky := fun n => kind_any d2 A2 c2 (⟨2, 0, t⟩ :: y) (w.drewN n) h.y
  have hfd : ∀ (t : List UInt8) (w : World), (Instr.field 31 (.agg #[.int .u8 2, .int .i64 0, .string ⟨t.toArray⟩]) 2).run Try.prog w = .ok (.string ⟨t.toArray⟩) w := fun _ _ => by kernel_rfl
  obtain ⟨off, ha, hd⟩ := h.y.2.2 (by simp)
  subst ha
  have cT := fun W c0 fz hlt hd => take_whole b 1 d2 off c2 ⟨2, 0, t⟩ y 0 W c0 fz hlt hd (.inl rfl)
  have cP := fun W A c (h : WK w0 B1 b d1 d2 f X y O A c W) => put_any ⟨2, 0, t⟩ W h hl
  have ky' : ∀ n, Calls Try.prog 115 #[.slice (some ⟨d2, off, none⟩) (y.length + 1) c2] (w.drewN n) fun e w' => e = .returned (.int .u8 2) ∧ w' = w.drewN n := ky
  have KX := Lib.hid kx; have KY := Lib.hid ky'
  clear kx ky' ky
  rw [List.length_cons] at e1
  generalize y.length + 1 = n1 at KY e1
  have CT := Lib.hid cT; have CP := Lib.hid cP; have H := Lib.hid h; have HD := Lib.hid hd
  clear cT cP h hd
  unfold Pc.v at CT
  dsimp only at CT
  by_cases hx : kd X = 2
  · have hff : f = false := hf.resolve_right (fun h => h hx)
    subst hff
    have hx' : (kd X == 2) = true := by rw [hx]; rfl
    clear hf hx
    generalize kd X = kX at *
    
    go_enter Try.func86, Try.ntmps86
    go_wp2_with fail
    go_quiet (first | (go_at_call_of 115 (Value.slice A1 X.length c1); exact Calls.quiet_of_same (KX.out _)) | (go_at_call_of 115 (Value.slice (some ⟨d2, off, none⟩) n1 c2); exact Calls.quiet_of_same (KY.out _)))
    have C1 := Lib.hid (H.out.ext (below_drewN (Below.refl _ _) nq))
    have D1 := Lib.hid (HD.out.keep (w' := w.drewN nq) (Fr.of_below (T := fun _ => False) (below_drewN (Below.refl _ _) nq)) id)
    clear H HD KX KY e0 e1 e2 e3 fz hlt
    generalize w.drewN nq = w1 at *
    obtain ⟨hlt, e0, e1, e2, e3, fz⟩ := C1.out.cells
    rw [List.length_cons] at e1
    go_wp2_with fail
    refine (CT.out _ e1 (fz _) hlt D1.out).mono ?_
    rintro e w2 ⟨rfl, hw2⟩
    have C2 := Lib.hid (show WE w0 B1 b d1 d2 false X y O A1 c1 (tailA d2 off c2) (c2 - 1) A c w2 from by rw [hw2]; exact (C1.out.takeY.alloc _).alloc _)
    clear hw2 C1 D1 e0 e1 e2 e3 fz hlt
    obtain ⟨hlt, e0, e1, e2, e3, fz⟩ := C2.out.cells
    go_wp2_with fail
    refine (CP.out _ _ _ C2.out.wk).mono ?_
    rintro e w3 ⟨rfl, A', c', hwk⟩
    go_wp2
    go_ret
    exact ⟨rfl, A', c', hwk⟩
  · have hx' : (kd X == 2) = false := by rw [beq_eq_false_iff_ne]; exact hx
    clear hf hx
    generalize kd X = kX at *
    
    go_enter Try.func86, Try.ntmps86
    go_wp2_with fail
    go_quiet (first | (go_at_call_of 115 (Value.slice A1 X.length c1); exact Calls.quiet_of_same (KX.out _)) | (go_at_call_of 115 (Value.slice (some ⟨d2, off, none⟩) n1 c2); exact Calls.quiet_of_same (KY.out _)))
    have C1 := Lib.hid (H.out.ext (below_drewN (Below.refl _ _) nq))
    have D1 := Lib.hid (HD.out.keep (w' := w.drewN nq) (Fr.of_below (T := fun _ => False) (below_drewN (Below.refl _ _) nq)) id)
    clear H HD KX KY e0 e1 e2 e3 fz hlt
    generalize w.drewN nq = w1 at *
    obtain ⟨hlt, e0, e1, e2, e3, fz⟩ := C1.out.cells
    rw [List.length_cons] at e1
    go_wp2_with fail
    refine (CT.out _ e1 (fz _) hlt D1.out).mono ?_
    rintro e w2 ⟨rfl, hw2⟩
    have C2 := Lib.hid (show WE w0 B1 b d1 d2 f X y O A1 c1 (tailA d2 off c2) (c2 - 1) A c w2 from by rw [hw2]; exact (C1.out.takeY.alloc _).alloc _)
    clear hw2 C1 D1 e0 e1 e2 e3 fz hlt
    obtain ⟨hlt, e0, e1, e2, e3, fz⟩ := C2.out.cells
    go_wp2_with fail
    refine (CP.out _ _ _ C2.out.wk).mono ?_
    rintro e w3 ⟨rfl, A', c', hwk⟩
    go_wp2
    go_ret
    exact ⟨rfl, A', c', hwk⟩

open Go.RowKit

set_option maxHeartbeats 2000000 in
set_option maxRecDepth 100000 in
theorem bytes_end {w0 : World} {B1 b d1 d2 : Nat} {f : Bool} {X Y O : List Pc} {A : Option Addr} {c : Nat} (w : World) (h : WK w0 B1 b d1 d2 f X Y O A c w) (hn : X = [] ∨ Y = []) :
    Calls Try.prog 118 #[.pointer (some ⟨b, 0, none⟩)] w fun e w' => e = .returned .nilFunc ∧ WK w0 B1 b d1 d2 f X Y O A c w' := by
  obtain ⟨A1, c1, A2, c2, h⟩ := h.we
  obtain ⟨hlt, e0, e1, e2, e3, fz⟩ := h.cells
  have H := Lib.hid h
  clear h
  by_cases hx : X = []
  · subst hx
    clear hn
    rw [List.length_nil] at e0
    go_enter Try.func118, Try.ntmps118
    go_wp2
    go_ret
    exact ⟨rfl, H.out.wk⟩
  · have hy : Y = [] := hn.resolve_left hx
    subst hy
    have hz : ((X.length : Int) == 0) = false := by
      have : 0 < X.length := List.length_pos_iff.2 hx
      rw [beq_eq_false_iff_ne]; omega
    clear hn hx
    rw [List.length_nil] at e1
    go_enter Try.func118, Try.ntmps118
    go_wp2
    go_ret
    exact ⟨rfl, H.out.wk⟩

theorem WE.ob {w0 : World} {B1 b d1 d2 : Nat} {f : Bool} {X Y O : List Pc} {A1 : Option Addr} {c1 : Nat} {A2 : Option Addr} {c2 : Nat} {A : Option Addr} {c : Nat} {w : World} (h : WE w0 B1 b d1 d2 f X Y O A1 c1 A2 c2 A c w) : ∀ k, (Value.slice A O.length c).ownBlock = some k → k < w.heap.size := fun k hk => (h.o.lt k hk).2

theorem box3 {W : World} {g : Nat} {x0 x1 x2 : Value} {e : TypeId} {fz : Nat × Nat} (h : W.heap[g]? = some (.cells #[x0, x1, x2] e fz)) (a b c : Value) : (((W.setCell ⟨g, 0, none⟩ a).setCell ⟨g, 1, none⟩ b).setCell ⟨g, 2, none⟩ c).heap[g]? = some (.cells #[a, b, c] e fz) := by
  have := set_at (set_at (set_at h 0 a) 1 b) 2 c
  rw [this]
  simp
theorem al_new {w : World} {o o' : Obj} {k : Nat} (h : k = w.heap.size) (ho : o = o') : (w.alloc o).heap[k]? = some o' := by subst h ho; exact heap_alloc_new w o
theorem al_old {w : World} {o : Obj} {k : Nat} (h : k < w.heap.size) : (w.alloc o).heap[k]? = w.heap[k]? := Below.heap_alloc w o k h
theorem st_oth {w : World} {a : Addr} {v : Value} {k : Nat} (h : k ≠ a.block) : (w.setCell a v).heap[k]? = w.heap[k]? := by
  simp only [World.setCell, Array.getElem?_modify]
  rw [if_neg (by omega)]
abbrev pO (k n : Int) : Obj := .cells #[.int .u8 k, .int .i64 n, .string ⟨#[]⟩] 31 (0, 0)

open Go.RowKit

set_option maxHeartbeats 40000000 in
set_option maxRecDepth 100000 in
theorem bytes_lt {w0 : World} {B1 b d1 d2 : Nat} {f : Bool} {O x y : List Pc} {A : Option Addr} {c : Nat} (p q : Pc) (w : World) (h : WK w0 B1 b d1 d2 f (p :: x) (q :: y) O A c w) (hp : p.k ≠ 2) (hq : q.k ≠ 2) (hpt : p.t = []) (_hqt : q.t = []) (hp1 : 1 ≤ p.n) (_hq1 : 1 ≤ q.n) (hp2 : p.n ≤ 1048576) (hq2 : q.n ≤ 1048576) (hl : O.length ≤ 100000) (hpq : p.n < q.n) :
    Calls Try.prog 118 #[.pointer (some ⟨b, 0, none⟩)] w fun e w' => e = .returned fT ∧ ∃ A' c', WK w0 B1 b d1 d2 f x (⟨q.k, q.n - p.n, q.t⟩ :: y) (O ++ if p.k = 1 then [⟨q.k, p.n, []⟩] else []) A' c' w' := by
  obtain ⟨A1, c1, A2, c2, h⟩ := h.we
  obtain ⟨hltb, e0, e1, e2, e3, fz⟩ := h.cells
  obtain ⟨off1, ha1, hd1⟩ := h.x.2.2 (by simp)
  subst ha1
  obtain ⟨off2, ha2, hd2⟩ := h.y.2.2 (by simp)
  subst ha2
  obtain ⟨hw1, x0, x1, x2⟩ := hd1.cell
  obtain ⟨hw2, y0, y1, y2⟩ := hd2.cell
  have cT := fun W c0 fz hlt hd => take_whole b 0 d1 off1 c1 p x p.n W c0 fz hlt hd (.inr ⟨hp, by omega⟩)
  have cU := fun W c0 hlt hd => take_cut b 1 d2 off2 c2 q y p.n W c0 hlt hd hq (by omega) hpq hq2
  have cP := fun W A c X Y (h : WK w0 B1 b d1 d2 f X Y O A c W) => put_any ⟨q.k, p.n, []⟩ W h hl
  rw [List.length_cons] at e0 e1
  have n1 : (0 : Int) < ((x.length + 1 : Nat) : Int) := by omega
  have n2 : (0 : Int) < ((y.length + 1 : Nat) : Int) := by omega
  have n1' : (((x.length + 1 : Nat) : Int) == 0) = false := by rw [beq_eq_false_iff_ne]; omega
  have n2' : (((y.length + 1 : Nat) : Int) == 0) = false := by rw [beq_eq_false_iff_ne]; omega
  have hmin : (if q.n < p.n then q.n else p.n) = p.n := if_neg (by omega)
  unfold Pc.v at cT cU
  have CT := Lib.hid (fun W (h : WE w0 B1 b d1 d2 f (p :: x) (q :: y) O (some ⟨d1, off1, none⟩) c1 (some ⟨d2, off2, none⟩) c2 A c W) => cT W (by have := h.cells.2.1; rwa [List.length_cons] at this) (h.cells.2.2.2.2.2 _) h.cells.1 (by obtain ⟨o, e, hd⟩ := h.x.2.2 (by simp); injection e with e; injection e with _ e; subst e; exact hd))
  have CU := Lib.hid (fun W (h : WE w0 B1 b d1 d2 f x (q :: y) O (tailA d1 off1 c1) (c1 - 1) (some ⟨d2, off2, none⟩) c2 A c W) => cU W (by have := h.cells.2.2.1; rwa [List.length_cons] at this) h.cells.1 (by obtain ⟨o, e, hd⟩ := h.y.2.2 (by simp); injection e with e; injection e with _ e; subst e; exact hd))
  have CP := Lib.hid cP; have H := Lib.hid h
  clear cT cU cP h hd1 hd2
  have HPQ := Lib.hid hpq
  clear hpq
  generalize hOO : (O ++ if p.k = 1 then [⟨q.k, p.n, []⟩] else []) = OO
  have HOO := Lib.hid hOO
  clear hOO
  have hob := H.out.ob
  have hs := H.out.s
  generalize x.length + 1 = m1 at n1 n1' e0
  generalize y.length + 1 = m2 at n2 n2' e1
  go_enter Try.func118, Try.ntmps118
  go_wp2_with fail
  go_quiet (fail)
  have C1 := Lib.hid (H.out.ext (below_drewN (Below.refl _ _) nq))
  clear H e0 e1 e2 e3 fz hltb x0 x1 x2 y0 y1 y2
  change d1 < (w.drewN nq).heap.size at hw1
  change d2 < (w.drewN nq).heap.size at hw2
  change ∀ k, (Value.slice A O.length c).ownBlock = some k → k < (w.drewN nq).heap.size at hob
  change w0.heap.size ≤ b ∧ b < B1 ∧ B1 ≤ (w.drewN nq).heap.size at hs
  generalize w.drewN nq = w1 at *
  obtain ⟨hltb, e0, e1, e2, e3, fz⟩ := C1.out.cells
  rw [List.length_cons] at e0 e1
  go_upto_region 4 with (fail)
  go_cut [4, 5] (fun v4 v5 wr => ∃ g1 g2 : Nat, v4 = .pointer (some ⟨g1, 0, none⟩) ∧ v5 = .pointer (some ⟨g2, 0, none⟩) ∧ Hid (wr.heap[g1]? = some (pO p.k p.n)) ∧ Hid (wr.heap[g2]? = some (pO q.k p.n)) ∧ Hid (WE w0 B1 b d1 d2 f x (⟨q.k, q.n - p.n, q.t⟩ :: y) O (tailA d1 off1 c1) (c1 - 1) (some ⟨d2, off2, none⟩) c2 A c wr))
  case first =>
    go_region_held3 (fun _ => True) (trivial)
      (first
        | (go_at_call_of 117 (Value.pointer (some ⟨b, 0, none⟩)); refine Calls.mono (CT.out _ (by repeat (first | with_reducible exact C1.out | with_reducible refine WE.drew ?_ | with_reducible refine WE.alloc ?_ _))) ?_; rintro e w' ⟨rfl, rfl⟩)
        | (go_at_call_of 117 (Value.pointer (some ⟨b, 1, none⟩)); refine Calls.mono (CU.out _ (by repeat (first | with_reducible exact C1.out | with_reducible refine WE.drew ?_ | with_reducible refine WE.alloc ?_ _ | with_reducible refine WE.takeX (p := p) (off := off1) ?_))) ?_; rintro e w' ⟨rfl, rfl⟩))
    all_goals go_wp2_with fail
    all_goals go_meet
    all_goals have HPQ2 := HPQ.out
    all_goals refine ⟨_, _, rfl, rfl, Lib.hid ?_, Lib.hid ?_, Lib.hid ?_⟩
    all_goals first
      | (repeat (first | with_reducible refine (dr_at _ _).trans ?_ | with_reducible refine (al_old (by first | (simp; done) | (simp; omega))).trans ?_ | with_reducible refine box3 (x0 := .int .u8 0) (x1 := .int .i64 0) (x2 := .string ⟨#[]⟩) ?_ _ _ _ | with_reducible refine (st_oth (by dsimp only; omega)).trans ?_ | exact al_new (by first | (simp; done) | (simp; omega)) rfl))
      | skip
    all_goals (repeat (first | with_reducible exact C1.out | with_reducible refine WE.drew ?_ | with_reducible refine WE.alloc ?_ _ | with_reducible refine WE.takeX (p := p) (off := off1) ?_ | with_reducible refine WE.cutY (q := q) (off := off2) ?_ _ | with_reducible refine WE.store ?_ _ _ _ (by omega) (fun k hk => by have := hob k hk; omega)))
  case rest =>
    obtain ⟨g1, g2, rfl, rfl, hP, hQ, C2⟩ := hcut
    have f0 : wc.cell? ⟨g1, 0, none⟩ = some (.int .u8 p.k) := by rw [Lib.cell_of_heap hP.out]; rfl
    have f1 : wc.cell? ⟨g2, 0, none⟩ = some (.int .u8 q.k) := by rw [Lib.cell_of_heap hQ.out]; rfl
    have hg1 := heap_lt hP.out
    have hg2 := heap_lt hQ.out
    clear hP hQ CT CU C1 e0 e1 e2 e3 fz hltb hob hs hw1 hw2
    by_cases hk : p.k = 1
    · have hk' : (p.k == 1) = true := by rw [hk]; rfl
      have hO2 := HOO.out
      rw [if_pos hk] at hO2
      have HO2 := Lib.hid hO2
      clear hk hO2
      go_wp2_with fail
      refine (CP.out _ _ _ _ _ C2.out.wk).mono ?_
      rintro e w3 ⟨rfl, A', c', hwk⟩
      go_wp2
      go_ret
      exact ⟨rfl, A', c', by rw [← HO2.out]; exact hwk⟩
    · have hk' : (p.k == 1) = false := by rw [beq_eq_false_iff_ne]; exact hk
      have hO2 := HOO.out
      rw [if_neg hk, List.append_nil] at hO2
      have HO2 := Lib.hid hO2
      clear hk hO2
      go_wp2
      go_ret
      exact ⟨rfl, A, c, by rw [← HO2.out]; exact C2.out.wk⟩

open Go.RowKit

set_option maxHeartbeats 40000000 in
set_option maxRecDepth 100000 in
theorem bytes_gt {w0 : World} {B1 b d1 d2 : Nat} {f : Bool} {O x y : List Pc} {A : Option Addr} {c : Nat} (p q : Pc) (w : World) (h : WK w0 B1 b d1 d2 f (p :: x) (q :: y) O A c w) (hp : p.k ≠ 2) (hq : q.k ≠ 2) (_hpt : p.t = []) (hqt : q.t = []) (_hp1 : 1 ≤ p.n) (hq1 : 1 ≤ q.n) (hp2 : p.n ≤ 1048576) (hq2 : q.n ≤ 1048576) (hl : O.length ≤ 100000) (hpq : q.n < p.n) :
    Calls Try.prog 118 #[.pointer (some ⟨b, 0, none⟩)] w fun e w' => e = .returned fT ∧ ∃ A' c', WK w0 B1 b d1 d2 f (⟨p.k, p.n - q.n, p.t⟩ :: x) y (O ++ if p.k = 1 then [⟨q.k, q.n, []⟩] else []) A' c' w' := by
  obtain ⟨A1, c1, A2, c2, h⟩ := h.we
  obtain ⟨hltb, e0, e1, e2, e3, fz⟩ := h.cells
  obtain ⟨off1, ha1, hd1⟩ := h.x.2.2 (by simp)
  subst ha1
  obtain ⟨off2, ha2, hd2⟩ := h.y.2.2 (by simp)
  subst ha2
  obtain ⟨hw1, x0, x1, x2⟩ := hd1.cell
  obtain ⟨hw2, y0, y1, y2⟩ := hd2.cell
  have cT := fun W c0 hlt hd => take_cut b 0 d1 off1 c1 p x q.n W c0 hlt hd hp (by omega) hpq hp2
  have cU := fun W c0 fz hlt hd => take_whole b 1 d2 off2 c2 q y q.n W c0 fz hlt hd (.inr ⟨hq, by omega⟩)
  have cP := fun W A c X Y (h : WK w0 B1 b d1 d2 f X Y O A c W) => put_any ⟨q.k, q.n, []⟩ W h hl
  rw [List.length_cons] at e0 e1
  have n1 : (0 : Int) < ((x.length + 1 : Nat) : Int) := by omega
  have n2 : (0 : Int) < ((y.length + 1 : Nat) : Int) := by omega
  have n1' : (((x.length + 1 : Nat) : Int) == 0) = false := by rw [beq_eq_false_iff_ne]; omega
  have n2' : (((y.length + 1 : Nat) : Int) == 0) = false := by rw [beq_eq_false_iff_ne]; omega
  have hmin : (if q.n < p.n then q.n else p.n) = q.n := if_pos hpq
  unfold Pc.v at cT cU
  have CT := Lib.hid (fun W (h : WE w0 B1 b d1 d2 f (p :: x) (q :: y) O (some ⟨d1, off1, none⟩) c1 (some ⟨d2, off2, none⟩) c2 A c W) => cT W (by have := h.cells.2.1; rwa [List.length_cons] at this) h.cells.1 (by obtain ⟨o, e, hd⟩ := h.x.2.2 (by simp); injection e with e; injection e with _ e; subst e; exact hd))
  have CU := Lib.hid (fun W (h : WE w0 B1 b d1 d2 f (⟨p.k, p.n - q.n, p.t⟩ :: x) (q :: y) O (some ⟨d1, off1, none⟩) c1 (some ⟨d2, off2, none⟩) c2 A c W) => cU W (by have := h.cells.2.2.1; rwa [List.length_cons] at this) (h.cells.2.2.2.2.2 _) h.cells.1 (by obtain ⟨o, e, hd⟩ := h.y.2.2 (by simp); injection e with e; injection e with _ e; subst e; exact hd))
  have CP := Lib.hid cP; have H := Lib.hid h
  clear cT cU cP h hd1 hd2
  have HPQ := Lib.hid hpq
  clear hpq
  generalize hOO : (O ++ if p.k = 1 then [⟨q.k, q.n, []⟩] else []) = OO
  have HOO := Lib.hid hOO
  clear hOO
  have hob := H.out.ob
  have hs := H.out.s
  generalize x.length + 1 = m1 at n1 n1' e0
  generalize y.length + 1 = m2 at n2 n2' e1
  go_enter Try.func118, Try.ntmps118
  go_wp2_with fail
  go_quiet (fail)
  have C1 := Lib.hid (H.out.ext (below_drewN (Below.refl _ _) nq))
  clear H e0 e1 e2 e3 fz hltb x0 x1 x2 y0 y1 y2
  change d1 < (w.drewN nq).heap.size at hw1
  change d2 < (w.drewN nq).heap.size at hw2
  change ∀ k, (Value.slice A O.length c).ownBlock = some k → k < (w.drewN nq).heap.size at hob
  change w0.heap.size ≤ b ∧ b < B1 ∧ B1 ≤ (w.drewN nq).heap.size at hs
  generalize w.drewN nq = w1 at *
  obtain ⟨hltb, e0, e1, e2, e3, fz⟩ := C1.out.cells
  rw [List.length_cons] at e0 e1
  go_upto_region 4 with (fail)
  go_cut [4, 5] (fun v4 v5 wr => ∃ g1 g2 : Nat, v4 = .pointer (some ⟨g1, 0, none⟩) ∧ v5 = .pointer (some ⟨g2, 0, none⟩) ∧ Hid (wr.heap[g1]? = some (pO p.k q.n)) ∧ Hid (wr.heap[g2]? = some (pO q.k q.n)) ∧ Hid (WE w0 B1 b d1 d2 f (⟨p.k, p.n - q.n, p.t⟩ :: x) y O (some ⟨d1, off1, none⟩) c1 (tailA d2 off2 c2) (c2 - 1) A c wr))
  case first =>
    go_region_held3 (fun _ => True) (trivial)
      (first
        | (go_at_call_of 117 (Value.pointer (some ⟨b, 0, none⟩)); refine Calls.mono (CT.out _ (by repeat (first | with_reducible exact C1.out | with_reducible refine WE.drew ?_ | with_reducible refine WE.alloc ?_ _))) ?_; rintro e w' ⟨rfl, rfl⟩)
        | (go_at_call_of 117 (Value.pointer (some ⟨b, 1, none⟩)); refine Calls.mono (CU.out _ (by repeat (first | with_reducible exact C1.out | with_reducible refine WE.drew ?_ | with_reducible refine WE.alloc ?_ _ | with_reducible refine WE.cutX (p := p) (off := off1) ?_ _))) ?_; rintro e w' ⟨rfl, rfl⟩))
    all_goals go_wp2_with fail
    all_goals go_meet
    all_goals have HPQ2 := HPQ.out
    all_goals refine ⟨_, _, rfl, rfl, Lib.hid ?_, Lib.hid ?_, Lib.hid ?_⟩
    all_goals first
      | (repeat (first | with_reducible refine (dr_at _ _).trans ?_ | with_reducible refine (al_old (by first | (simp; done) | (simp; omega))).trans ?_ | with_reducible refine box3 (x0 := .int .u8 0) (x1 := .int .i64 0) (x2 := .string ⟨#[]⟩) ?_ _ _ _ | with_reducible refine (st_oth (by dsimp only; omega)).trans ?_ | exact al_new (by first | (simp; done) | (simp; omega)) rfl))
      | skip
    all_goals (repeat (first | with_reducible exact C1.out | with_reducible refine WE.drew ?_ | with_reducible refine WE.alloc ?_ _ | with_reducible refine WE.cutX (p := p) (off := off1) ?_ _ | with_reducible refine WE.takeY (q := q) (off := off2) ?_ | with_reducible refine WE.store ?_ _ _ _ (by omega) (fun k hk => by have := hob k hk; omega)))
  case rest =>
    obtain ⟨g1, g2, rfl, rfl, hP, hQ, C2⟩ := hcut
    have f0 : wc.cell? ⟨g1, 0, none⟩ = some (.int .u8 p.k) := by rw [Lib.cell_of_heap hP.out]; rfl
    have f1 : wc.cell? ⟨g2, 0, none⟩ = some (.int .u8 q.k) := by rw [Lib.cell_of_heap hQ.out]; rfl
    have hg1 := heap_lt hP.out
    have hg2 := heap_lt hQ.out
    clear hP hQ CT CU C1 e0 e1 e2 e3 fz hltb hob hs hw1 hw2
    by_cases hk : p.k = 1
    · have hk' : (p.k == 1) = true := by rw [hk]; rfl
      have hO2 := HOO.out
      rw [if_pos hk] at hO2
      have HO2 := Lib.hid hO2
      clear hk hO2
      go_wp2_with fail
      refine (CP.out _ _ _ _ _ C2.out.wk).mono ?_
      rintro e w3 ⟨rfl, A', c', hwk⟩
      go_wp2
      go_ret
      exact ⟨rfl, A', c', by rw [← HO2.out]; exact hwk⟩
    · have hk' : (p.k == 1) = false := by rw [beq_eq_false_iff_ne]; exact hk
      have hO2 := HOO.out
      rw [if_neg hk, List.append_nil] at hO2
      have HO2 := Lib.hid hO2
      clear hk hO2
      go_wp2
      go_ret
      exact ⟨rfl, A, c, by rw [← HO2.out]; exact C2.out.wk⟩

open Go.RowKit

set_option maxHeartbeats 40000000 in
set_option maxRecDepth 100000 in
theorem bytes_eq {w0 : World} {B1 b d1 d2 : Nat} {f : Bool} {O x y : List Pc} {A : Option Addr} {c : Nat} (p q : Pc) (w : World) (h : WK w0 B1 b d1 d2 f (p :: x) (q :: y) O A c w) (hp : p.k ≠ 2) (hq : q.k ≠ 2) (hpt : p.t = []) (hqt : q.t = []) (_hp1 : 1 ≤ p.n) (_hq1 : 1 ≤ q.n) (_hp2 : p.n ≤ 1048576) (_hq2 : q.n ≤ 1048576) (hl : O.length ≤ 100000) (hpq : p.n = q.n) :
    Calls Try.prog 118 #[.pointer (some ⟨b, 0, none⟩)] w fun e w' => e = .returned fT ∧ ∃ A' c', WK w0 B1 b d1 d2 f x y (O ++ if p.k = 1 then [⟨q.k, p.n, []⟩] else []) A' c' w' := by
  obtain ⟨A1, c1, A2, c2, h⟩ := h.we
  obtain ⟨hltb, e0, e1, e2, e3, fz⟩ := h.cells
  obtain ⟨off1, ha1, hd1⟩ := h.x.2.2 (by simp)
  subst ha1
  obtain ⟨off2, ha2, hd2⟩ := h.y.2.2 (by simp)
  subst ha2
  obtain ⟨hw1, x0, x1, x2⟩ := hd1.cell
  obtain ⟨hw2, y0, y1, y2⟩ := hd2.cell
  have cT := fun W c0 fz hlt hd => take_whole b 0 d1 off1 c1 p x p.n W c0 fz hlt hd (.inr ⟨hp, by omega⟩)
  have cU := fun W c0 fz hlt hd => take_whole b 1 d2 off2 c2 q y p.n W c0 fz hlt hd (.inr ⟨hq, by omega⟩)
  have cP := fun W A c X Y (h : WK w0 B1 b d1 d2 f X Y O A c W) => put_any ⟨q.k, p.n, []⟩ W h hl
  rw [List.length_cons] at e0 e1
  have n1 : (0 : Int) < ((x.length + 1 : Nat) : Int) := by omega
  have n2 : (0 : Int) < ((y.length + 1 : Nat) : Int) := by omega
  have n1' : (((x.length + 1 : Nat) : Int) == 0) = false := by rw [beq_eq_false_iff_ne]; omega
  have n2' : (((y.length + 1 : Nat) : Int) == 0) = false := by rw [beq_eq_false_iff_ne]; omega
  have hmin : (if q.n < p.n then q.n else p.n) = p.n := if_neg (by omega)
  unfold Pc.v at cT cU
  have CT := Lib.hid (fun W (h : WE w0 B1 b d1 d2 f (p :: x) (q :: y) O (some ⟨d1, off1, none⟩) c1 (some ⟨d2, off2, none⟩) c2 A c W) => cT W (by have := h.cells.2.1; rwa [List.length_cons] at this) (h.cells.2.2.2.2.2 _) h.cells.1 (by obtain ⟨o, e, hd⟩ := h.x.2.2 (by simp); injection e with e; injection e with _ e; subst e; exact hd))
  have CU := Lib.hid (fun W (h : WE w0 B1 b d1 d2 f x (q :: y) O (tailA d1 off1 c1) (c1 - 1) (some ⟨d2, off2, none⟩) c2 A c W) => cU W (by have := h.cells.2.2.1; rwa [List.length_cons] at this) (h.cells.2.2.2.2.2 _) h.cells.1 (by obtain ⟨o, e, hd⟩ := h.y.2.2 (by simp); injection e with e; injection e with _ e; subst e; exact hd))
  have CP := Lib.hid cP; have H := Lib.hid h
  clear cT cU cP h hd1 hd2
  have HPQ := Lib.hid hpq
  clear hpq
  generalize hOO : (O ++ if p.k = 1 then [⟨q.k, p.n, []⟩] else []) = OO
  have HOO := Lib.hid hOO
  clear hOO
  have hob := H.out.ob
  have hs := H.out.s
  generalize x.length + 1 = m1 at n1 n1' e0
  generalize y.length + 1 = m2 at n2 n2' e1
  go_enter Try.func118, Try.ntmps118
  go_wp2_with fail
  go_quiet (fail)
  have C1 := Lib.hid (H.out.ext (below_drewN (Below.refl _ _) nq))
  clear H e0 e1 e2 e3 fz hltb x0 x1 x2 y0 y1 y2
  change d1 < (w.drewN nq).heap.size at hw1
  change d2 < (w.drewN nq).heap.size at hw2
  change ∀ k, (Value.slice A O.length c).ownBlock = some k → k < (w.drewN nq).heap.size at hob
  change w0.heap.size ≤ b ∧ b < B1 ∧ B1 ≤ (w.drewN nq).heap.size at hs
  generalize w.drewN nq = w1 at *
  obtain ⟨hltb, e0, e1, e2, e3, fz⟩ := C1.out.cells
  rw [List.length_cons] at e0 e1
  go_upto_region 4 with (fail)
  go_cut [4, 5] (fun v4 v5 wr => ∃ g1 g2 : Nat, v4 = .pointer (some ⟨g1, 0, none⟩) ∧ v5 = .pointer (some ⟨g2, 0, none⟩) ∧ Hid (wr.heap[g1]? = some (pO p.k p.n)) ∧ Hid (wr.heap[g2]? = some (pO q.k q.n)) ∧ Hid (WE w0 B1 b d1 d2 f x y O (tailA d1 off1 c1) (c1 - 1) (tailA d2 off2 c2) (c2 - 1) A c wr))
  case first =>
    go_region_held3 (fun _ => True) (trivial)
      (first
        | (go_at_call_of 117 (Value.pointer (some ⟨b, 0, none⟩)); refine Calls.mono (CT.out _ (by repeat (first | with_reducible exact C1.out | with_reducible refine WE.drew ?_ | with_reducible refine WE.alloc ?_ _))) ?_; rintro e w' ⟨rfl, rfl⟩)
        | (go_at_call_of 117 (Value.pointer (some ⟨b, 1, none⟩)); refine Calls.mono (CU.out _ (by repeat (first | with_reducible exact C1.out | with_reducible refine WE.drew ?_ | with_reducible refine WE.alloc ?_ _ | with_reducible refine WE.takeX (p := p) (off := off1) ?_))) ?_; rintro e w' ⟨rfl, rfl⟩))
    all_goals go_wp2_with fail
    all_goals go_meet
    all_goals have HPQ2 := HPQ.out
    all_goals refine ⟨_, _, rfl, rfl, Lib.hid ?_, Lib.hid ?_, Lib.hid ?_⟩
    all_goals first
      | (repeat (first | with_reducible refine (dr_at _ _).trans ?_ | with_reducible refine (al_old (by first | (simp; done) | (simp; omega))).trans ?_ | with_reducible refine box3 (x0 := .int .u8 0) (x1 := .int .i64 0) (x2 := .string ⟨#[]⟩) ?_ _ _ _ | with_reducible refine (st_oth (by dsimp only; omega)).trans ?_ | exact al_new (by first | (simp; done) | (simp; omega)) rfl))
      | skip
    all_goals (repeat (first | with_reducible exact C1.out | with_reducible refine WE.drew ?_ | with_reducible refine WE.alloc ?_ _ | with_reducible refine WE.takeX (p := p) (off := off1) ?_ | with_reducible refine WE.takeY (q := q) (off := off2) ?_ | with_reducible refine WE.store ?_ _ _ _ (by omega) (fun k hk => by have := hob k hk; omega)))
  case rest =>
    obtain ⟨g1, g2, rfl, rfl, hP, hQ, C2⟩ := hcut
    have f0 : wc.cell? ⟨g1, 0, none⟩ = some (.int .u8 p.k) := by rw [Lib.cell_of_heap hP.out]; rfl
    have f1 : wc.cell? ⟨g2, 0, none⟩ = some (.int .u8 q.k) := by rw [Lib.cell_of_heap hQ.out]; rfl
    have hg1 := heap_lt hP.out
    have hg2 := heap_lt hQ.out
    clear hP hQ CT CU C1 e0 e1 e2 e3 fz hltb hob hs hw1 hw2
    by_cases hk : p.k = 1
    · have hk' : (p.k == 1) = true := by rw [hk]; rfl
      have hO2 := HOO.out
      rw [if_pos hk] at hO2
      have HO2 := Lib.hid hO2
      clear hk hO2
      go_wp2_with fail
      refine (CP.out _ _ _ _ _ C2.out.wk).mono ?_
      rintro e w3 ⟨rfl, A', c', hwk⟩
      go_wp2
      go_ret
      exact ⟨rfl, A', c', by rw [← HO2.out]; exact hwk⟩
    · have hk' : (p.k == 1) = false := by rw [beq_eq_false_iff_ne]; exact hk
      have hO2 := HOO.out
      rw [if_neg hk, List.append_nil] at hO2
      have HO2 := Lib.hid hO2
      clear hk hO2
      go_wp2
      go_ret
      exact ⟨rfl, A, c, by rw [← HO2.out]; exact C2.out.wk⟩

end Go.Proofs.Ytdlbjfgpfjcpaaa
