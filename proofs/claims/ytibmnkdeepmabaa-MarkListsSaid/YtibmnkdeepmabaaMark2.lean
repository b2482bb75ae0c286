/- mark.Find with slices.IndexFunc and its closure; quartoref09.Find, Is, without: what they return. Condition: the marks read as values of their type. -/
import Derived.Test.YtibmnkdeepmabaaMark1
namespace Go.Proofs.Ytibmnkdeepmabaa
open Go.RowKit

/-- the first place of an ID -/
def idxF (id : Int) : Int → List Mk → Int
  | _, [] => -1
  | k, m :: r => if m.id = id then k else idxF id (k + 1) r
/-- what Find returns -/
def mz : Mk := ⟨0, 0, 0⟩
def fndM (id : Int) (l : List Mk) : Option Mk := l.find? (fun m => m.id == id)
def fndR (id : Int) (l : List Mk) : Mk := (fndM id l).getD mz
def fndB (id : Int) (l : List Mk) : Bool := (fndM id l).isSome
theorem fndM_hit {id : Int} {m : Mk} {r : List Mk} (h : m.id = id) : fndM id (m :: r) = some m := by simp [fndM, h]
theorem fndM_miss {id : Int} {m : Mk} {r : List Mk} (h : ¬ m.id = id) : fndM id (m :: r) = fndM id r := by simp [fndM, h]
theorem idxF_fnd (id : Int) : ∀ (l : List Mk) (k : Int), 0 ≤ k → (idxF id k l = -1 ∧ fndM id l = none) ∨ ∃ j : Nat, ∃ h : j < l.length, idxF id k l = k + j ∧ fndM id l = some l[j]
  | [], k, _ => .inl ⟨rfl, rfl⟩
  | m :: r, k, hk => by
    by_cases h : m.id = id
    · exact .inr ⟨0, by simp, by rw [idxF, if_pos h]; simp, fndM_hit h⟩
    · rw [idxF, if_neg h, fndM_miss h]
      rcases idxF_fnd id r (k + 1) (by omega) with h2 | ⟨j, h1, h2, h3⟩
      · exact .inl h2
      · exact .inr ⟨j + 1, by simp; omega, by rw [h2]; push_cast; omega, by rw [h3]; rfl⟩

set_option maxHeartbeats 400000 in
theorem findC_any (m : Mk) (bx : Nat) (id : Int) (w : World) (hb : bx < w.heap.size) (hx : w.cell? ⟨bx, 0, none⟩ = some (.int .u32 id)) :
    Calls Try.prog 38 #[m.v, .pointer (some ⟨bx, 0, none⟩)] w fun e w' => e = .returned (.bool (m.id == id)) ∧ Below w.heap.size w w' := by
  obtain ⟨i, a, g⟩ := m
  unfold Mk.v
  have hne : bx ≠ w.heap.size := by omega
  go_enter Try.func38, Try.ntmps38
  go_wp2
  go_ret
  exact ⟨rfl, (Below.refl _ _).alloc (Nat.le_refl _) _⟩

set_option maxHeartbeats 1000000 in
theorem indexFunc_any (v : Value) (l : List Mk) (bx : Nat) (d : Int) (w : World) (h : Sl mkE w v l) (hb : bx < w.heap.size) (hx : w.cell? ⟨bx, 0, none⟩ = some (.int .u32 d)) :
    Calls Try.prog 37 #[v, .func (.func 38) #[] #[.pointer (some ⟨bx, 0, none⟩)]] w fun e w' => e = .returned (.int .i64 (idxF d 0 l)) ∧ Below w.heap.size w w' := by
  obtain ⟨A, cap, hv, h2, h3, -⟩ := id h
  unfold maxLen at h3
  have H := Lib.hid h; have HX := Lib.hid hx
  clear h hx
  subst hv
  go_enter Try.func37, Try.ntmps37
  go_wp2_with fail
  go_loopw [8] (fun i wr => ∃ k : Nat, k ≤ l.length ∧ i = .int .i64 k ∧ Hid (idxF d 0 l = idxF d k (l.drop k)) ∧ Hid (Below w.heap.size w wr)) (fun i _ => l.length - (intOf i).toNat)
  case atStart => exact ⟨0, by omega, rfl, Lib.hid rfl, Lib.hid (Below.refl _ _)⟩
  case round =>
    obtain ⟨k, hk, rfl, hG, hB⟩ := hrel
    have hsz := hB.out.size
    by_cases hlt : k < l.length
    · have hdk := List.drop_eq_getElem_cons hlt
      obtain ⟨b, off, cap', hv, hb', c0, c1, c2⟩ := (H.out.ext hB.out).mk3 hlt
      obtain ⟨rfl, rfl⟩ : A = some ⟨b, off, none⟩ ∧ cap = cap' := by injection hv with e1 e2 e3; exact ⟨e1, e3⟩
      clear hv
      have cC := findC_any l[k] bx d wr (Nat.lt_of_lt_of_le hb hsz) ((hB.out.cell (p := ⟨bx, 0, none⟩) hb).trans HX.out)
      generalize l[k] = m at *
      obtain ⟨i, a, g⟩ := m
      unfold Mk.v at cC
      have Hdk := Lib.hid hdk; have CC := Lib.hid cC; clear hdk cC
      simp only at c0 c1 c2
      by_cases q : i = d
      · have E := Lib.hid (show idxF d 0 l = k by rw [hG.out, Hdk.out, idxF, if_pos q])
        have q' : (i == d) = true := by simpa using q
        clear hG Hdk q
        go_wp2_with fail
        refine CC.out.mono ?_
        rintro e w2 ⟨rfl, hb2⟩
        go_wp2
        go_ret
        exact ⟨by rw [E.out]; rfl, hB.out.trans (hb2.mono hsz)⟩
      · have E := Lib.hid (show idxF d 0 l = idxF d ((k + 1 : Nat) : Int) (l.drop (k + 1)) by rw [hG.out, Hdk.out, idxF, if_neg q]; push_cast; rfl)
        have q' : (i == d) = false := by simpa using q
        clear hG Hdk q
        go_wp2_with fail
        refine CC.out.mono ?_
        rintro e w2 ⟨rfl, hb2⟩
        go_wp2_with fail
        go_roundw
        case rel => exact ⟨k + 1, by omega, by go_num, E, Lib.hid (hB.out.trans (hb2.mono hsz))⟩
        case measure => simp [intOf]; omega
    · have E := Lib.hid (show idxF d 0 l = -1 by rw [hG.out, List.drop_eq_nil_of_le (by omega)]; rfl)
      clear hG
      go_wp2
      go_ret
      exact ⟨by rw [E.out]; rfl, hB.out⟩

theorem below_two {w w2 : World} {o1 o2 : Obj} (hb : Below ((w.alloc o1).alloc o2).heap.size ((w.alloc o1).alloc o2) w2) : Below w.heap.size w w2 :=
  (((Below.refl _ _).alloc (Nat.le_refl _) _).alloc (by simp) _).trans (hb.mono (by simp; omega))
theorem below_set3 {w w2 : World} {b : Nat} (h : Below w.heap.size w w2) (hb : w.heap.size ≤ b) (x y z : Value) : Below w.heap.size w (((w2.setCell ⟨b, 0, none⟩ x).setCell ⟨b, 1, none⟩ y).setCell ⟨b, 2, none⟩ z) :=
  ((h.setCell (p := ⟨b, 0, none⟩) hb x).setCell (p := ⟨b, 1, none⟩) hb y).setCell (p := ⟨b, 2, none⟩) hb z
theorem cell_box (w : World) (x : Value) (t : TypeId) (o : Obj) : ((w.alloc (.cells #[x] t)).alloc o).cell? ⟨w.heap.size, 0, none⟩ = some x :=
  Lib.cell?_alloc_some _ (by rw [Lib.cell_of_heap (heap_alloc_new w _)]; rfl)

set_option maxHeartbeats 1000000 in
set_option maxRecDepth 100000 in
theorem find9_any (v : Value) (l : List Mk) (d : Int) (w : World) (h : Sl mkE w v l) :
    Calls Try.prog 20 #[v, .int .u32 d] w fun e w' => e = .returned (.tuple #[(fndR d l).v, .bool (fndB d l)]) ∧ Below w.heap.size w w' := by
  obtain ⟨A, cap, hv, h2, h3, -⟩ := id h
  unfold maxLen at h3
  subst hv
  have cI := fun w' hS hb hx => indexFunc_any (.slice A l.length cap) l w.heap.size d w' hS hb hx
  have hI := idxF_fnd d l 0 (Int.le_refl 0)
  rcases hI with ⟨e1, e2⟩ | ⟨j, hj, e1, e2⟩
  · rw [e1] at cI
    have f1 : fndR d l = mz := by simp [fndR, e2]
    have f2 : fndB d l = false := by simp [fndB, e2]
    rw [f1, f2]
    have CI := Lib.hid cI; have H := Lib.hid h
    clear cI h e1 e2 f1 f2
    go_enter Try.func20, Try.ntmps20
    go_wp2_with fail
    refine (CI.out _ ((H.out.alloc _).alloc _) (by simp; omega) (cell_box _ _ _ _)).mono ?_
    rintro e w2 ⟨rfl, hb⟩
    obtain ⟨hc, hf⟩ := bcell hb
    have hs := hb.size
    simp at hs
    go_wp2
    refine bodyPost_ret (v := .tuple #[mz.v, .bool false]) (by simp [results, Try.f20, go_sem, mz, Mk.v, hc]) rfl ⟨rfl, ?_⟩
    exact below_set3 (below_two hb) (by omega) _ _ _
  · rw [Int.zero_add] at e1
    rw [e1] at cI
    have f1 : fndR d l = l[j] := by simp [fndR, e2]
    have f2 : fndB d l = true := by simp [fndB, e2]
    rw [f1, f2]
    obtain ⟨b, off, cap', hv, hb', c0, c1, c2⟩ := h.mk3 hj
    obtain ⟨rfl, rfl⟩ : A = some ⟨b, off, none⟩ ∧ cap = cap' := by injection hv with e1 e2 e3; exact ⟨e1, e3⟩
    have CI := Lib.hid cI; have H := Lib.hid h
    have hjl : (j : Int) < (l.length : Int) := by omega
    clear cI h e1 e2 f1 f2 hv
    generalize l[j] = m at *
    obtain ⟨i, a, g⟩ := m
    simp only at c0 c1 c2
    go_enter Try.func20, Try.ntmps20
    go_wp2_with fail
    refine (CI.out _ ((H.out.alloc _).alloc _) (by simp; omega) (cell_box _ _ _ _)).mono ?_
    rintro e w2 ⟨rfl, hb⟩
    obtain ⟨hc, hf⟩ := bcell hb
    have hs := hb.size
    simp at hs
    have hB2 := below_two hb
    have k0 := (hB2.cell (p := ⟨b, _, none⟩) hb').trans c0
    have k1 := (hB2.cell (p := ⟨b, _, none⟩) hb').trans c1
    have k2 := (hB2.cell (p := ⟨b, _, none⟩) hb').trans c2
    have n1 : ¬ w.heap.size + 1 = b := by omega
    clear c0 c1 c2
    go_wp2
    refine bodyPost_ret (v := .tuple #[(⟨i, a, g⟩ : Mk).v, .bool true]) (by simp [results, Try.f20, go_sem, Mk.v, hc]) rfl ⟨rfl, ?_⟩
    exact below_set3 hB2 (by omega) _ _ _

set_option maxHeartbeats 1000000 in
set_option maxRecDepth 100000 in
theorem refFind9_any (v : Value) (l : List Mk) (d : Int) (w : World) (h : Sl mkE w v l) :
    Calls Try.prog 21 #[v, .int .u32 d] w fun e w' => e = .returned (.tuple #[(fndR d l).v, .bool (fndB d l)]) ∧ Below w.heap.size w w' := by
  obtain ⟨A, cap, hv, h2, h3, -⟩ := id h
  unfold maxLen at h3
  have H := Lib.hid h
  clear h
  subst hv
  go_enter Try.func21, Try.ntmps21
  go_wp2_with fail
  go_loopw [6] (fun i wr => ∃ k : Nat, k ≤ l.length ∧ i = .int .i64 k ∧ Hid (fndM d l = fndM d (l.drop k)) ∧ wr = w.alloc (.cells #[.int .u32 0, .int .i64 0, .int .u8 0] 32)) (fun i _ => l.length - (intOf i).toNat)
  case atStart => exact ⟨0, by omega, rfl, Lib.hid rfl, rfl⟩
  case round =>
    obtain ⟨k, hk, rfl, hG, rfl⟩ := hrel
    by_cases hlt : k < l.length
    · have hdk := List.drop_eq_getElem_cons hlt
      obtain ⟨b, off, cap', hv, hb', c0, c1, c2⟩ := H.out.mk3 hlt
      obtain ⟨rfl, rfl⟩ : A = some ⟨b, off, none⟩ ∧ cap = cap' := by injection hv with e1 e2 e3; exact ⟨e1, e3⟩
      clear hv
      generalize l[k] = m at *
      obtain ⟨i, a, g⟩ := m
      have Hdk := Lib.hid hdk; clear hdk
      simp only at c0 c1 c2
      have n1 : ¬ w.heap.size = b := by omega
      by_cases q : i = d
      · have E := Lib.hid (show fndM d l = some ⟨i, a, g⟩ by rw [hG.out, Hdk.out, fndM_hit q])
        have q' : (i == d) = true := by simpa using q
        clear hG Hdk q
        go_wp2
        refine bodyPost_ret (v := .tuple #[(⟨i, a, g⟩ : Mk).v, .bool true]) (by simp [results, Try.f21, go_sem, Mk.v]) rfl ⟨by rw [fndR, fndB, E.out]; rfl, ?_⟩
        exact (Below.refl _ _).alloc (Nat.le_refl _) _
      · have E := Lib.hid (show fndM d l = fndM d (l.drop (k + 1)) by rw [hG.out, Hdk.out, fndM_miss q])
        have q' : (i == d) = false := by simpa using q
        clear hG Hdk q
        go_wp2_with fail
        go_roundw
        case rel => exact ⟨k + 1, by omega, by go_num, E, trivial⟩
        case measure => simp [intOf]; omega
    · have E := Lib.hid (show fndM d l = none by rw [hG.out, List.drop_eq_nil_of_le (by omega)]; rfl)
      clear hG
      go_wp2
      refine bodyPost_ret (v := .tuple #[mz.v, .bool false]) (by simp [results, Try.f21, go_sem, Mk.v, mz]) rfl ⟨by rw [fndR, fndB, E.out]; rfl, ?_⟩
      exact (Below.refl _ _).alloc (Nat.le_refl _) _

set_option maxHeartbeats 400000 in
theorem refIs_any (v : Value) (l : List Mk) (w : World) (h : Sl mkE w v l) (hd : ∀ m, m ∈ l → m.wf) :
    Calls Try.prog 31 #[v] w fun e w' => e = .returned (.bool (chkM 9223372036854775807 l == 0)) ∧ Below w.heap.size w w' := by
  have cC := refCheck9_any 9223372036854775807 v l w h hd
  generalize chkM 9223372036854775807 l = E at *
  go_enter Try.func31, Try.ntmps31
  go_wp2_with fail
  refine cC.mono ?_
  rintro e w1 ⟨rfl, hb⟩
  go_wp2
  go_ret
  exact ⟨rfl, hb⟩

/-- a row of marks that is being written -/
structure MG (w0 : World) (R : List Mk) (A : Option Addr) (c : Nat) (w : World) : Prop where
  o : w.ownsRow w0.heap.size 32 3 (.slice A R.length c) R.length (mkE.flat R)
  b : Below w0.heap.size w0 w
theorem MG.grow {w0 : World} {R : List Mk} {A : Option Addr} {c : Nat} {w w8 : World} (h : MG w0 R A c w) {o : Obj} {R' : List Mk} {A' : Option Addr} {c' : Nat}
    (ho : w8.ownsRow w0.heap.size 32 3 (.slice A' R'.length c') R'.length (mkE.flat R')) (hg : (w.alloc o).grownBy w8 (Value.slice A R.length c).ownBlock) : MG w0 R' A' c' w8 :=
  ⟨ho, (h.b.alloc h.b.size _).grown hg (by have := h.b.size; simp; omega) (fun g hg => (h.o.lt g hg).1)⟩

/-- the marks with other IDs -/
def wo9 (d : Int) (l : List Mk) : List Mk := l.filter (fun m => m.id != d)
theorem wo9_snoc (d : Int) (l : List Mk) (k : Nat) (h : k < l.length) : wo9 d (l.take (k + 1)) = wo9 d (l.take k) ++ if l[k].id = d then [] else [l[k]] := by
  rw [List.take_succ_eq_append_getElem h, wo9, List.filter_append]
  by_cases q : l[k].id = d <;> simp [wo9, q]
theorem wo9_len (d : Int) (l : List Mk) : (wo9 d l).length ≤ l.length := List.length_filter_le _ _

set_option maxHeartbeats 2000000 in
set_option maxRecDepth 100000 in
theorem without_any (v : Value) (l : List Mk) (d : Int) (w : World) (h : Sl mkE w v l) (hl : l.length ≤ 1000000) :
    Calls Try.prog 32 #[v, .int .u32 d] w fun e w' => ∃ v', e = .returned v' ∧ w'.ownsRow w.heap.size 32 3 v' (wo9 d l).length (mkE.flat (wo9 d l)) ∧ Below w.heap.size w w' := by
  obtain ⟨i0, hi, hz0, hz1, hz2⟩ := info_parts infoMark
  obtain ⟨A, cap, hv, h2, h3, -⟩ := id h
  unfold maxLen at h3
  have H := Lib.hid h
  clear h
  subst hv
  go_enter Try.func32, Try.ntmps32
  go_wp2_with fail
  go_loopw [5, 6] (fun vo i wr => ∃ (k : Nat) (R : List Mk) (A5 : Option Addr) (c5 : Nat), k ≤ l.length ∧ i = .int .i64 k ∧ vo = .slice A5 R.length c5 ∧ R.length ≤ k ∧ Hid (R = wo9 d (l.take k)) ∧ Hid (MG w R A5 c5 wr)) (fun _ i _ => l.length - (intOf i).toNat)
  case atStart => exact ⟨0, [], none, 0, by omega, rfl, rfl, by simp, Lib.hid rfl, Lib.hid ⟨World.ownsRow_nil _ _ _ _, Below.refl _ _⟩⟩
  case round =>
    obtain ⟨k, R, A5, c5, hk, rfl, rfl, hR, hG, hM⟩ := hrel
    have hsz := hM.out.b.size
    by_cases hlt : k < l.length
    · have hsn := wo9_snoc d l k hlt
      obtain ⟨b, off, cap', hv, hb', c0, c1, c2⟩ := (H.out.ext hM.out.b).mk3 hlt
      obtain ⟨rfl, rfl⟩ : A = some ⟨b, off, none⟩ ∧ cap = cap' := by injection hv with e1 e2 e3; exact ⟨e1, e3⟩
      clear hv
      generalize hm : l[k] = m at *
      obtain ⟨i, a, g⟩ := m
      clear hm
      have Hsn := Lib.hid hsn; clear hsn
      simp only at c0 c1 c2
      by_cases q : i = d
      · have E := Lib.hid (show R = wo9 d (l.take (k + 1)) by rw [Hsn.out, if_pos q, List.append_nil]; exact hG.out)
        have q' : (i != d) = false := by simpa using q
        clear hG Hsn q
        go_wp2_with fail
        go_roundw
        case rel => exact ⟨k + 1, R, A5, c5, by omega, by go_num, rfl, by omega, E, hM⟩
        case measure => simp [intOf]; omega
      · have E := Lib.hid (show R ++ [⟨i, a, g⟩] = wo9 d (l.take (k + 1)) by rw [Hsn.out, if_neg q, ← hG.out])
        have q' : (i != d) = true := by simpa using q
        clear hG Hsn q
        have hR2 : R.length < 1000000 := by omega
        go_wp2_with (at_builtin; refine Hid.out ?_)
        refine Lib.hid ?_
        refine wpListB_append _ rfl (.tmp 20) (.tmp 25) 22 22 rfl w.heap.size (by simp; omega) 32 i0 _ 3 24 Try.underlying22 hi hz0 hz1 hz2 rfl (by decide) _ _ _ rfl (hM.out.o.alloc _) _ 1 _ rfl (src_one mkE Try.underlying22 (off := 0) (⟨i, a, g⟩ : Mk) _ (new_cells _ _ _)) (by unfold maxLen; omega) (by omega) ?_
        intro A9 c9 w9 hown9 hg9 _ _
        have M9 := Lib.hid (MG.grow (R' := R ++ [⟨i, a, g⟩]) (A' := A9) (c' := c9) hM.out (by rw [List.length_append, mkE.flat_append]; exact hown9) hg9)
        clear hown9 hg9
        go_wp2_with fail
        go_roundw
        case rel => exact ⟨k + 1, R ++ [⟨i, a, g⟩], A9, c9, by omega, by go_num, by simp, by simp; omega, E, M9⟩
        case measure => simp [intOf]; omega
    · have E := Lib.hid (show R = wo9 d l by rw [hG.out, List.take_of_length_le (by omega)])
      clear hG
      go_wp2
      go_ret
      exact ⟨_, rfl, by rw [← E.out]; exact hM.out.o, hM.out.b⟩

end Go.Proofs.Ytibmnkdeepmabaa
