/- slices.SortStableFunc at less than twenty marks, over a row of the call's own; mark.Between over a contract of the sort. -/
import Derived.Test.YtibmnkdeepmabaaSort3
import Derived.Test.YtibmnkdeepmabaaMark4
namespace Go.Proofs.Ytibmnkdeepmabaa
open Go.RowKit Go.Sort

/-- what is asked of the sort -/
def SortC (F : List Mk) : Prop := ∀ (w : World) (B : Nat) (A : Option Addr) (c : Nat), w.ownsRow B 32 3 (.slice A F.length c) F.length (mkE.flat F) → B ≤ w.heap.size →
  Calls Try.prog 42 #[.slice A F.length c, fvB] w fun e w' => e = .returned (.tuple #[]) ∧
    ∃ S, Stab F S ∧ w'.ownsRow B 32 3 (.slice A F.length c) F.length (mkE.flat S) ∧ Below B w w'
def StabC (F : List Mk) : Prop := ∀ (w : World) (B : Nat) (g : Nat) (c : Nat), w.ownsRow B 32 3 (.slice (some ⟨g, 0, none⟩) F.length c) F.length (mkE.flat F) → B ≤ w.heap.size →
  Calls Try.prog 63 #[.slice (some ⟨g, 0, none⟩) F.length c, .int .i64 F.length, fvB] w fun e w' => e = .returned (.tuple #[]) ∧
    ∃ S, Stab F S ∧ w'.ownsRow B 32 3 (.slice (some ⟨g, 0, none⟩) F.length c) F.length (mkE.flat S) ∧ Below B w w'

set_option maxHeartbeats 400000 in
theorem insNone_any (v : Value) (w : World) : Calls Try.prog 79 #[v, .int .i64 0, .int .i64 0, fvB] w fun e w' => e = .returned (.tuple #[]) ∧ w' = w := by
  unfold fvB
  go_enter Try.func79, Try.ntmps79
  go_wp2
  refine wp_loop_rounds 1 ?_
  rw [rounds_succ]
  go_wp2
  go_end0
  exact ⟨rfl, rfl⟩

set_option maxHeartbeats 400000 in
theorem stabNone_any (v : Value) (w : World) : Calls Try.prog 63 #[v, .int .i64 0, fvB] w fun e w' => e = .returned (.tuple #[]) ∧ w' = w := by
  have c := insNone_any v w
  unfold fvB at *
  have C := Lib.hid c; clear c
  go_enter Try.func63, Try.ntmps63
  go_wp2
  refine wp_loop_rounds 1 ?_
  rw [rounds_succ]
  go_wp2_with fail
  refine C.out.mono ?_
  rintro e w1 ⟨rfl, rfl⟩
  go_wp2
  refine wp_loop_rounds 1 ?_
  rw [rounds_succ]
  go_wp2
  go_end0
  exact ⟨rfl, rfl⟩

set_option maxHeartbeats 400000 in
theorem stabSmall_any (F : List Mk) (h20 : F.length < 20) : StabC F := by
  intro w B g c h hB
  have ci := insSort_any F 0 F.length B g c w h hB (Nat.zero_le _) (Nat.le_refl _) (by omega)
  have hst := insertion_stab F
  generalize insertionSort lt9 F.toArray 0 F.length = d' at *
  unfold fvB at *
  have C := Lib.hid ci; have HS := Lib.hid hst; clear ci hst h
  have h20i : ¬ (20 : Int) ≤ (F.length : Int) := by omega
  have h20j : ¬ (20 : Int) < (F.length : Int) := by omega
  clear h20
  go_enter Try.func63, Try.ntmps63
  go_wp2
  refine wp_loop_rounds 1 ?_
  rw [rounds_succ]
  go_wp2_with fail
  refine C.out.mono ?_
  rintro e w1 ⟨rfl, ho, hb⟩
  go_wp2
  refine wp_loop_rounds 1 ?_
  rw [rounds_succ]
  go_wp2
  go_end0
  exact ⟨rfl, _, HS.out, ho, hb⟩

set_option maxHeartbeats 400000 in
theorem sort_nil : SortC [] := by
  intro w B A c h hB
  have cs := stabNone_any (.slice A 0 c) w
  unfold fvB at *
  have C := Lib.hid cs; clear cs
  have H := Lib.hid h; clear h
  go_enter Try.func42, Try.ntmps42
  go_wp2_with fail
  refine C.out.mono ?_
  rintro e w1 ⟨rfl, rfl⟩
  go_wp2
  go_end0
  exact ⟨rfl, [], ⟨List.Pairwise.nil, fun _ _ => rfl⟩, H.out, Below.refl _ _⟩

set_option maxHeartbeats 400000 in
theorem sort_of (F : List Mk) (h0 : 0 < F.length) (hS : StabC F) : SortC F := by
  intro w B A c h hB
  obtain ⟨g, c', hv, -⟩ := h.form h0
  obtain ⟨rfl, rfl⟩ : A = some ⟨g, 0, none⟩ ∧ c = c' := by injection hv with e1 e2 e3; exact ⟨e1, e3⟩
  have cs := hS w B g c h hB
  unfold fvB at *
  have C := Lib.hid cs; clear cs h hS hv hB
  go_enter Try.func42, Try.ntmps42
  go_wp2_with fail
  refine C.out.mono ?_
  rintro e w1 ⟨rfl, S, h1, h2, h3⟩
  have H1 := Lib.hid h1; have H2 := Lib.hid h2; have H3 := Lib.hid h3; clear h1 h2 h3
  go_wp2
  go_end0
  exact ⟨rfl, S, H1.out, H2.out, H3.out⟩

theorem sort_small (F : List Mk) (h : F.length < 20) : SortC F := by
  rcases Nat.eq_zero_or_pos F.length with h0 | h0
  · have : F = [] := List.eq_nil_of_length_eq_zero h0
    subst this
    exact sort_nil
  · exact sort_of F h0 (stabSmall_any F h)

/-- the marks of a range -/
def inR (f t : Int) (l : List Mk) : List Mk := l.filter (fun m => decide (f ≤ m.a) && decide (m.a ≤ t))
theorem inR_snoc (f t : Int) (l : List Mk) (k : Nat) (h : k < l.length) : inR f t (l.take (k + 1)) = inR f t (l.take k) ++ if f ≤ l[k].a ∧ l[k].a ≤ t then [l[k]] else [] := by
  rw [List.take_succ_eq_append_getElem h, inR, List.filter_append]
  by_cases q : f ≤ l[k].a ∧ l[k].a ≤ t
  · rw [if_pos q]; simp [inR, q.1, q.2]
  · rw [if_neg q]
    congr 1
    rw [List.filter_cons_of_neg (by simpa using q)]
    rfl

theorem MG.app0 {w0 : World} {R R' : List Mk} {A A' : Option Addr} {c c' : Nat} {w w8 : World} {o o' : Obj} (h : MG w0 R A c w) (ho : w8.ownsRow w0.heap.size 32 3 (.slice A' R'.length c') R'.length (mkE.flat R')) (hg : ((w.alloc o).alloc o').grownBy w8 (Value.slice A R.length c).ownBlock) : MG w0 R' A' c' w8 :=
  ⟨ho, ((h.b.alloc h.b.size o).alloc (by have := h.b.size; simp; omega) o').grown hg (by have := h.b.size; simp; omega) (fun g hg => (h.o.lt g hg).1)⟩

set_option maxHeartbeats 2000000 in
set_option maxRecDepth 100000 in
theorem between_any (v : Value) (l : List Mk) (f t : Int) (w : World) (h : Sl mkE w v l) (hl : l.length ≤ 1000000) (hS : SortC (inR f t l)) :
    Calls Try.prog 26 #[v, .int .i64 f, .int .i64 t] w fun e w' => ∃ v' S, e = .returned v' ∧ Stab (inR f t l) S ∧ w'.ownsRow w.heap.size 32 3 v' (inR f t l).length (mkE.flat S) ∧ Below w.heap.size w w' := by
  obtain ⟨i0, hi, hz0, hz1, hz2⟩ := info_parts infoMark
  obtain ⟨A, cap, hv, h2, h3, -⟩ := id h
  unfold maxLen at h3
  have H := Lib.hid h
  unfold SortC fvB at hS
  have HS := Lib.hid hS
  clear h hS
  subst hv
  go_enter Try.func26, Try.ntmps26
  go_wp2_with fail
  go_loopw [7, 12] (fun vo i wr => ∃ (k : Nat) (R : List Mk) (A5 : Option Addr) (c5 : Nat), k ≤ l.length ∧ i = .int .i64 k ∧ vo = .slice A5 R.length c5 ∧ R.length ≤ k ∧ Hid (R = inR f t (l.take k)) ∧ Hid (MG w R A5 c5 wr)) (fun _ i _ => l.length - (intOf i).toNat)
  case atStart => exact ⟨0, [], none, 0, by omega, rfl, rfl, by simp, Lib.hid rfl, Lib.hid ⟨World.ownsRow_nil _ _ _ _, Below.refl _ _⟩⟩
  case round =>
    obtain ⟨k, R, A5, c5, hk, rfl, rfl, hR, hG, hM⟩ := hrel
    have hsz := hM.out.b.size
    by_cases hlt : k < l.length
    · have hsn := inR_snoc f t l k hlt
      obtain ⟨b, off, cap', hv, hb', c0, c1, c2⟩ := (H.out.ext hM.out.b).mk3 hlt
      obtain ⟨rfl, rfl⟩ : A = some ⟨b, off, none⟩ ∧ cap = cap' := by injection hv with e1 e2 e3; exact ⟨e1, e3⟩
      clear hv
      generalize l[k] = m at *
      obtain ⟨i, a, g⟩ := m
      have Hsn := Lib.hid hsn; clear hsn
      simp only at c0 c1 c2
      by_cases q1 : f ≤ a
      · by_cases q2 : a ≤ t
        · have E := Lib.hid (show R ++ [⟨i, a, g⟩] = inR f t (l.take (k + 1)) by rw [Hsn.out, if_pos ⟨q1, q2⟩, ← hG.out])
          clear hG Hsn
          have hR2 : R.length < 1000000 := by omega
          go_wp2_with (at_builtin; refine Hid.out ?_)
          refine Lib.hid ?_
          refine wpListB_append _ rfl (.tmp 26) (.tmp 28) 22 22 rfl w.heap.size (by simp; omega) 32 i0 _ 3 24 Try.underlying22 hi hz0 hz1 hz2 rfl (by decide) _ _ _ rfl ((hM.out.o.alloc _).alloc _) _ 1 _ rfl (src_one mkE Try.underlying22 (off := 0) (⟨i, a, g⟩ : Mk) _ (new_cells_at (E := mkE) _ _ (by simp) _ _)) ?_ ?_ ?_
          · unfold maxLen; omega
          · omega
          intro A9 c9 w9 hown9 hg9 _ _
          have M9 := Lib.hid (MG.app0 (R' := R ++ [⟨i, a, g⟩]) (A' := A9) (c' := c9) hM.out (by rw [List.length_append, mkE.flat_append]; exact hown9) hg9)
          clear hown9 hg9
          go_wp2_with fail
          go_roundw
          case rel => exact ⟨k + 1, R ++ [⟨i, a, g⟩], A9, c9, by omega, by go_num, by simp, by simp; omega, E, M9⟩
          case measure => simp [intOf]; omega
        · have E := Lib.hid (show R = inR f t (l.take (k + 1)) by rw [Hsn.out, if_neg (fun h => q2 h.2), List.append_nil]; exact hG.out)
          clear hG Hsn
          go_wp2_with fail
          go_roundw
          case rel => exact ⟨k + 1, R, A5, c5, by omega, by go_num, rfl, by omega, E, Lib.hid ⟨hM.out.o.alloc _, hM.out.b.alloc hsz _⟩⟩
          case measure => simp [intOf]; omega
      · have E := Lib.hid (show R = inR f t (l.take (k + 1)) by rw [Hsn.out, if_neg (fun h => q1 h.1), List.append_nil]; exact hG.out)
        clear hG Hsn
        go_wp2_with fail
        go_roundw
        case rel => exact ⟨k + 1, R, A5, c5, by omega, by go_num, rfl, by omega, E, Lib.hid ⟨hM.out.o.alloc _, hM.out.b.alloc hsz _⟩⟩
        case measure => simp [intOf]; omega
    · have E := Lib.hid (show R = inR f t l by rw [hG.out, List.take_of_length_le (by omega)])
      clear hG
      rw [← E.out] at HS
      go_wp2_with fail
      refine (HS.out wr w.heap.size A5 c5 hM.out.o hsz).mono ?_
      rintro e w1 ⟨rfl, S, s1, s2, s3⟩
      have S1 := Lib.hid s1; have S2 := Lib.hid s2; have S3 := Lib.hid s3; clear s1 s2 s3
      go_wp2
      go_ret
      exact ⟨_, S, rfl, by rw [← E.out]; exact S1.out, by rw [← E.out]; exact S2.out, hM.out.b.trans S3.out⟩

end Go.Proofs.Ytibmnkdeepmabaa
