/- quartoref03.Of: the pieces of atoms. Condition: atoms whose kept offsets rise, not more than 49000. -/
import Derived.Test.YtdlbjfgpfjcpaaaAtoms
import Derived.Test.YtdlbjfgpfjcpaaaCompose
namespace Go.Proofs.Ytdlbjfgpfjcpaaa
open Go.RowKit

theorem Sl.int5 {w : World} {v : Value} {l : List Int} (h : Sl inE w v l) {k : Nat} (hk : k < l.length) :
    ∃ b off cap, v = .slice (some ⟨b, off, none⟩) l.length cap ∧ b < w.heap.size ∧ ∀ w', Below w.heap.size w w' → w'.cell? ⟨b, off + k, none⟩ = some (.int .i64 l[k]) := by
  obtain ⟨A, cap, rfl, h2, h3, h4⟩ := h
  obtain ⟨b, off, rfl, hb, hc⟩ := h4 (by omega)
  have hx : l[k]? = some l[k] := List.getElem?_eq_getElem hk
  refine ⟨b, off, cap, rfl, hb, fun w' hb' => ?_⟩
  have := hc k 0 _ _ hx rfl
  rw [show k * inE.sz + 0 = k by simp [inE]] at this
  exact (hb'.cell (p := ⟨b, _, none⟩) hb).trans this
set_option maxRecDepth 100000 in
theorem conv_byte (y : UInt8) : ∀ (w : World) (b : Nat), w.cell? ⟨b, 0, none⟩ = some (.int .u8 (y.toNat : Int)) → (convert 111 9 (.slice (some ⟨b, 0, none⟩) 1 1)).run Try.prog w = .ok (.string ⟨#[y]⟩) w := by
  intro w b h
  have := run_convert_bytes_back w 111 9 5 ⟨b, 0, none⟩ 1 [y] Try.underlying111 Try.underlying5 Try.underlying9 (fun j hj => by
    have hj0 : j = 0 := by simp at hj; omega
    subst hj0
    exact h)
  exact this
/-- at the head of a round -/
structure OI (n : Int) (A : List Int) (k : Nat) (D : List Pc) (a : Int) : Prop where
  e : unitsS n 0 A = D ++ unitsS n a (A.drop k)
  r : Rising a n (A.drop k)
  l : D.length ≤ 2 * k
  a : 0 ≤ a
  m : ∀ p ∈ D, p.valid = true ∧ 0 ≤ p.n ∧ p.n ≤ 1048576 ∧ p.t.length ≤ 1048576
theorem OI.neg {n : Int} {A : List Int} {k : Nat} {D : List Pc} {a : Int} (h : OI n A k D a) (hk : k < A.length) (hx : A[k] < 0) : ∃ y : UInt8, A[k] = -1 - (y.toNat : Int) ∧ OI n A (k + 1) (D ++ [⟨2, 0, [y]⟩]) a := by
  obtain ⟨e, r, l, h0, m⟩ := h
  have hd : A.drop k = A[k] :: A.drop (k + 1) := List.drop_eq_getElem_cons hk
  rw [hd] at e r
  have r2 : Rising a n (A.drop (k + 1)) ∧ -256 ≤ A[k] := by
    cases r with
    | neg _ h2 h3 => exact ⟨h3, h2⟩
    | pos h1 _ _ => omega
  have hy : ((UInt8.ofNat (-1 - A[k]).toNat).toNat : Int) = -1 - A[k] := by
    have : (UInt8.ofNat (-1 - A[k]).toNat).toNat = (-1 - A[k]).toNat := by
      rw [UInt8.toNat_ofNat']
      exact Nat.mod_eq_of_lt (by omega)
    omega
  refine ⟨UInt8.ofNat (-1 - A[k]).toNat, by omega, ?_, r2.1, by rw [List.length_append]; simp; omega, h0, fun p hp => ?_⟩
  · rw [e, unitsS, if_pos hx, List.append_assoc]; rfl
  · rcases List.mem_append.1 hp with hp | hp
    · exact m p hp
    · rw [List.mem_singleton.1 hp]; simp [Pc.valid]
theorem OI.pos {n : Int} {A : List Int} {k : Nat} {D : List Pc} {a : Int} (h : OI n A k D a) (hn : n ≤ 1048576) (hk : k < A.length) (hx : ¬ A[k] < 0) :
    a ≤ A[k] ∧ A[k] < n ∧ OI n A (k + 1) ((D ++ if a < A[k] then [⟨3, A[k] - a, []⟩] else []) ++ [⟨1, 1, []⟩]) (A[k] + 1) := by
  obtain ⟨e, r, l, h0, m⟩ := h
  have hd : A.drop k = A[k] :: A.drop (k + 1) := List.drop_eq_getElem_cons hk
  rw [hd] at e r
  have r2 : Rising (A[k] + 1) n (A.drop (k + 1)) ∧ a ≤ A[k] := by
    cases r with
    | neg h1 _ _ => omega
    | pos _ h2 h3 => exact ⟨h3, h2⟩
  have hle := r2.1.le
  refine ⟨r2.2, by omega, ?_, r2.1, ?_, by omega, fun p hp => ?_⟩
  · rw [e, unitsS, if_neg hx, List.append_assoc, List.append_assoc]; rfl
  · rw [List.length_append, List.length_append]
    split <;> simp <;> omega
  · rcases List.mem_append.1 hp with hp | hp
    · rcases List.mem_append.1 hp with hp | hp
      · exact m p hp
      · split at hp
        · rename_i hlt
          rw [List.mem_singleton.1 hp]
          simp [Pc.valid]; omega
        · cases hp
    · rw [List.mem_singleton.1 hp]; simp [Pc.valid]
theorem OI.done {n : Int} {A : List Int} {k : Nat} {D : List Pc} {a : Int} (h : OI n A k D a) (hn : n ≤ 1048576) (hA : A.length ≤ 49000) (hk' : k ≤ A.length) (hk : ¬ k < A.length) :
    unitsS n 0 A = (D ++ if a < n then [⟨3, n - a, []⟩] else []) ∧ FormPre (unitsS n 0 A) ∧ (∀ p ∈ unitsS n 0 A, p.valid = true) := by
  obtain ⟨e, r, l, h0, m⟩ := h
  have hd : A.drop k = [] := List.drop_eq_nil_iff.2 (by omega)
  rw [hd, unitsS] at e
  have hm : ∀ p ∈ unitsS n 0 A, p.valid = true ∧ 0 ≤ p.n ∧ p.n ≤ 1048576 ∧ p.t.length ≤ 1048576 := fun p hp => by
    rw [e] at hp
    rcases List.mem_append.1 hp with hp | hp
    · exact m p hp
    · split at hp
      · rename_i hlt
        rw [List.mem_singleton.1 hp]
        simp [Pc.valid]; omega
      · cases hp
  refine ⟨e, ⟨?_, fun p hp => (hm p hp).2⟩, fun p hp => (hm p hp).1⟩
  rw [e, List.length_append]
  split <;> simp <;> omega

set_option maxHeartbeats 8000000 in
set_option maxRecDepth 100000 in
theorem of_any (n : Int) (v : Value) (A : List Int) (w : World) (h : Sl inE w v A) (hr : Rising 0 n A) (hA : A.length ≤ 49000) (hn : n ≤ 1048576) :
    Calls Try.prog 94 #[.int .i64 n, v] w fun e w' => ∃ v', e = .returned v' ∧ w'.ownsRow w.heap.size 31 3 v' (ofS n A).length (pcE.flat (ofS n A)) ∧ Below w.heap.size w w' := by
  obtain ⟨B, cap, rfl, h2, h3, -⟩ := id h
  obtain ⟨i0, hi, hz0, hz1, hz2⟩ := info_parts infoPiece
  have cF := Lib.hid fun (hp : FormPre (unitsS n 0 A)) (hv : ∀ p ∈ unitsS n 0 A, p.valid = true) x w h => refForm_any x (unitsS n 0 A) w h hp hv
  have hOI : OI n A 0 [] 0 := ⟨by simp, by rw [List.drop_zero]; exact hr, by simp, Int.le_refl _, fun p hp => by cases hp⟩
  have HOI := Lib.hid hOI; have H := Lib.hid h
  have hn0 : 0 ≤ n := hr.le
  generalize hOO : ofS n A = OO at *
  have HO := Lib.hid (show formS (unitsS n 0 A) = OO from hOO)
  unfold maxLen at h3
  clear h hr hOI hOO
  go_enter Try.func94, Try.ntmps94
  go_wp2_with fail
  go_loopw [5, 6, 7] (fun vd va i wr => ∃ (k : Nat) (D : List Pc) (a : Int) (A5 : Option Addr) (c5 : Nat), k ≤ A.length ∧ i = .int .i64 k ∧ va = .int .i64 a ∧ vd = .slice A5 D.length c5 ∧ Hid (OI n A k D a) ∧ Hid (wr.ownsRow w.heap.size 31 3 (.slice A5 D.length c5) D.length (pcE.flat D)) ∧ Hid (Below w.heap.size w wr)) (fun _ _ i _ => A.length - (intOf i).toNat)
  case atStart => exact ⟨0, [], 0, none, 0, by omega, rfl, rfl, rfl, HOI, Lib.hid (World.ownsRow_nil _ _ _ _), Lib.hid (Below.refl _ _)⟩
  case round =>
    obtain ⟨k, D, a, A5, c5, hk, rfl, rfl, rfl, hI, hO, hB⟩ := hrel
    have hsz := hB.out.size
    have hDl : D.length ≤ 98000 := by have := hI.out.l; omega
    have ha0 := hI.out.a
    by_cases hlt : k < A.length
    · obtain ⟨b, off, cap', hv, hb, hc⟩ := H.out.int5 hlt
      obtain ⟨rfl, rfl⟩ : B = some ⟨b, off, none⟩ ∧ cap = cap' := by injection hv with e1 e2 e3; exact ⟨e1, e3⟩
      have c0 := hc _ hB.out
      have HC := Lib.hid hc
      have hbw : b < wr.heap.size := Nat.lt_of_lt_of_le hb hsz
      by_cases hx : A[k] < 0
      · obtain ⟨y, hy, hI2⟩ := hI.out.neg hlt hx
        have HI2 := Lib.hid hI2
        rw [hy] at c0
        have hyl := y.toNat_lt
        have hcv := conv_byte y
        have n1 : decide (-1 - (y.toNat : Int) < 0) = true := decide_eq_true (by omega)
        have n2 : (-1 - (y.toNat : Int)) < 0 := by omega
        have w1 : IntKind.i64.wrap (-1 - (-1 - (y.toNat : Int))) = (y.toNat : Int) := by rw [IntWalk.i64_in _ (by omega)]; omega
        have w2 : IntKind.u8.wrap (y.toNat : Int) = (y.toNat : Int) := by
          unfold IntKind.wrap; simp [IntKind.bits, IntKind.signed]; omega
        clear hv hc hI hx hy hI2 hyl
        go_wp2_with (at_builtin; refine Hid.out ?_)
        refine Lib.hid ?_
        refine wpListB_append _ rfl (.tmp 19) (.tmp 29) 22 22 rfl w.heap.size (by simp; omega) 31 i0 _ 3 32 Try.underlying22 hi hz0 hz1 hz2 rfl (by decide) _ _ _ rfl (own_keepB hO.out (Fr.of_below (T := fun _ => False) (bal (bal (Below.refl _ _)))) (fun _ _ h => h.elim)) _ 1 _ rfl (src_one pcE Try.underlying22 (off := 0) ⟨2, 0, [y]⟩ _ (new_cells2 _ _ _ _)) (by unfold maxLen; omega) (by omega) ?_
        intro A8 c8 w8 hown hg _ _
        have O8 := Lib.hid (show w8.ownsRow w.heap.size 31 3 (.slice A8 (D ++ [(⟨2, 0, [y]⟩ : Pc)]).length c8) (D ++ [(⟨2, 0, [y]⟩ : Pc)]).length (pcE.flat (D ++ [(⟨2, 0, [y]⟩ : Pc)])) by rw [List.length_append, pcE.flat_append]; exact hown)
        have B8 := Lib.hid ((hB.out.trans ((Below.mono (bal (bal (Below.refl _ _))) hB.out.size))).grown hg (by simp; omega) (fun g hg => (hO.out.lt g hg).1))
        clear hown hg
        clear hO hB
        go_wp2_with fail
        go_roundw
        case rel => exact ⟨k + 1, D ++ [(⟨2, 0, [y]⟩ : Pc)], a, A8, c8, by omega, by go_num, rfl, by simp, HI2, O8, B8⟩
        case measure => simp [intOf]; omega
      · obtain ⟨hax, hxn, hI2⟩ := hI.out.pos hn hlt hx
        have n1 : decide (A[k] < 0) = false := decide_eq_false (by omega)
        by_cases hlt2 : a < A[k]
        · have w1 : IntKind.i64.wrap (A[k] - a) = A[k] - a := IntWalk.i64_in _ (by omega)
          have w2 : IntKind.i64.wrap (A[k] + 1) = A[k] + 1 := IntWalk.i64_in _ (by omega)
          rw [if_pos hlt2] at hI2
          have HI2 := Lib.hid hI2
          clear hv hc hI hI2
          have HC2 := Lib.hid (show ∀ w', Below w.heap.size w w' → w'.cell? ⟨b, off + k, none⟩ = some (.int .i64 A[k]) from HC.out)
          generalize A[k] = x at *
          go_wp2_with (at_builtin; refine Hid.out ?_)
          refine Lib.hid ?_
          refine wpListB_append _ rfl (.tmp 37) (.tmp 45) 22 22 rfl w.heap.size (by simp; omega) 31 i0 _ 3 32 Try.underlying22 hi hz0 hz1 hz2 rfl (by decide) _ _ _ rfl (own_keepB hO.out (Fr.of_below (T := fun _ => False) (bal (Below.refl _ _))) (fun _ _ h => h.elim)) _ 1 _ rfl (src_one pcE Try.underlying22 (off := 0) ⟨3, x - a, []⟩ _ (new_cells _ _ _)) (by unfold maxLen; omega) (by omega) ?_
          intro A8 c8 w8 hown hg _ _
          have O8 := Lib.hid (show w8.ownsRow w.heap.size 31 3 (.slice A8 (D.length + 1) c8) (D.length + 1) (pcE.flat (D ++ [(⟨3, x - a, []⟩ : Pc)])) by rw [pcE.flat_append]; exact hown)
          have B8 := Lib.hid ((hB.out.trans ((Below.mono (bal (Below.refl _ _)) hB.out.size))).grown hg (by simp; omega) (fun g hg => (hO.out.lt g hg).1))
          clear hown hg
          have c1 := HC2.out _ B8.out
          have hs8 := B8.out.size
          have hb8 : b < w8.heap.size := Nat.lt_of_lt_of_le hb hs8
          have hD8 : (D ++ [(⟨3, x - a, []⟩ : Pc)]).length = D.length + 1 := by simp
          clear hO hB c0
          go_wp2_with (at_builtin; refine Hid.out ?_)
          refine Lib.hid ?_
          refine wpListB_append _ rfl (.tmp 47) (.tmp 49) 22 22 rfl w.heap.size (by simp; omega) 31 i0 _ 3 32 Try.underlying22 hi hz0 hz1 hz2 rfl (by decide) _ _ _ rfl (own_keepB O8.out (Fr.of_below (T := fun _ => False) (bal (Below.refl _ _))) (fun _ _ h => h.elim)) _ 1 _ rfl (src_one pcE Try.underlying22 (off := 0) ⟨1, 1, []⟩ _ (new_cells _ _ _)) (by unfold maxLen; omega) (by omega) ?_
          intro A9 c9 w9 hown hg _ _
          have O9 := Lib.hid (show w9.ownsRow w.heap.size 31 3 (.slice A9 ((D ++ [(⟨3, x - a, []⟩ : Pc)]) ++ [(⟨1, 1, []⟩ : Pc)]).length c9) ((D ++ [(⟨3, x - a, []⟩ : Pc)]) ++ [(⟨1, 1, []⟩ : Pc)]).length (pcE.flat ((D ++ [(⟨3, x - a, []⟩ : Pc)]) ++ [(⟨1, 1, []⟩ : Pc)])) by rw [List.length_append, hD8, pcE.flat_append _ [(⟨1, 1, []⟩ : Pc)]]; exact hown)
          have B9 := Lib.hid ((B8.out.trans ((Below.mono (bal (Below.refl _ _)) B8.out.size))).grown hg (by simp; omega) (fun g hg => (O8.out.lt g hg).1))
          clear hown hg
          have c2 := HC2.out _ B9.out
          have hs9 := B9.out.size
          have hb9 : b < w9.heap.size := Nat.lt_of_lt_of_le hb hs9
          clear O8 B8 c1
          go_wp2_with fail
          go_roundw
          case rel => exact ⟨k + 1, (D ++ [(⟨3, x - a, []⟩ : Pc)]) ++ [(⟨1, 1, []⟩ : Pc)], x + 1, A9, c9, by omega, by go_num, by first | rfl | go_num, by simp, HI2, O9, B9⟩
          case measure => simp [intOf]; omega
        · have n2 : decide (a < A[k]) = false := decide_eq_false hlt2
          have w2 : IntKind.i64.wrap (A[k] + 1) = A[k] + 1 := IntWalk.i64_in _ (by omega)
          rw [if_neg hlt2, List.append_nil] at hI2
          have HI2 := Lib.hid hI2
          clear hv hc hI hI2
          have HC2 := Lib.hid (show ∀ w', Below w.heap.size w w' → w'.cell? ⟨b, off + k, none⟩ = some (.int .i64 A[k]) from HC.out)
          generalize A[k] = x at *
          go_wp2_with (at_builtin; refine Hid.out ?_)
          refine Lib.hid ?_
          refine wpListB_append _ rfl (.tmp 47) (.tmp 49) 22 22 rfl w.heap.size (by simp; omega) 31 i0 _ 3 32 Try.underlying22 hi hz0 hz1 hz2 rfl (by decide) _ _ _ rfl (own_keepB hO.out (Fr.of_below (T := fun _ => False) (bal (Below.refl _ _))) (fun _ _ h => h.elim)) _ 1 _ rfl (src_one pcE Try.underlying22 (off := 0) ⟨1, 1, []⟩ _ (new_cells _ _ _)) (by unfold maxLen; omega) (by omega) ?_
          intro A8 c8 w8 hown hg _ _
          have O8 := Lib.hid (show w8.ownsRow w.heap.size 31 3 (.slice A8 (D ++ [(⟨1, 1, []⟩ : Pc)]).length c8) (D ++ [(⟨1, 1, []⟩ : Pc)]).length (pcE.flat (D ++ [(⟨1, 1, []⟩ : Pc)])) by rw [List.length_append, pcE.flat_append]; exact hown)
          have B8 := Lib.hid ((hB.out.trans ((Below.mono (bal (Below.refl _ _)) hB.out.size))).grown hg (by simp; omega) (fun g hg => (hO.out.lt g hg).1))
          clear hown hg
          have c2 := HC2.out _ B8.out
          have hs9 := B8.out.size
          have hb9 : b < w8.heap.size := Nat.lt_of_lt_of_le hb hs9
          clear hO hB c0
          go_wp2_with fail
          go_roundw
          case rel => exact ⟨k + 1, D ++ [(⟨1, 1, []⟩ : Pc)], x + 1, A8, c8, by omega, by go_num, by first | rfl | go_num, by simp, HI2, O8, B8⟩
          case measure => simp [intOf]; omega
    · obtain ⟨u1, u2, u3⟩ := hI.out.done hn hA hk hlt
      have cF1 := cF.out u2 u3
      have han := hI.out.r.le
      rw [HO.out] at cF1
      by_cases hlt2 : a < n
      · have w1 : IntKind.i64.wrap (n - a) = n - a := IntWalk.i64_in _ (by omega)
        rw [if_pos hlt2] at u1
        rw [u1] at cF1
        have CF := Lib.hid cF1
        clear cF1 u1 u2 u3 hI cF HO HOI
        go_wp2_with (at_builtin; refine Hid.out ?_)
        refine Lib.hid ?_
        refine wpListB_append _ rfl (.tmp 59) (.tmp 64) 22 22 rfl w.heap.size (by simp; omega) 31 i0 _ 3 32 Try.underlying22 hi hz0 hz1 hz2 rfl (by decide) _ _ _ rfl (own_keepB hO.out (Fr.of_below (T := fun _ => False) (bal (Below.refl _ _))) (fun _ _ h => h.elim)) _ 1 _ rfl (src_one pcE Try.underlying22 (off := 0) ⟨3, n - a, []⟩ _ (new_cells _ _ _)) (by unfold maxLen; omega) (by omega) ?_
        intro A8 c8 w8 hown hg _ _
        have O8 := Lib.hid (show w8.ownsRow w.heap.size 31 3 (.slice A8 (D ++ [(⟨3, n - a, []⟩ : Pc)]).length c8) (D ++ [(⟨3, n - a, []⟩ : Pc)]).length (pcE.flat (D ++ [(⟨3, n - a, []⟩ : Pc)])) by rw [List.length_append, pcE.flat_append]; exact hown)
        have B8 := Lib.hid ((hB.out.trans ((Below.mono (bal (Below.refl _ _)) hB.out.size))).grown hg (by simp; omega) (fun g hg => (hO.out.lt g hg).1))
        clear hown hg
        have hs8 := B8.out.size
        clear hO hB
        go_wp2_with fail
        refine (CF.out _ _ (by have := Sl.of_own O8.out; rw [List.length_append] at this; exact this)).mono ?_
        rintro e w9 ⟨v9, rfl, ho, hb9⟩
        have O9 := Lib.hid (own_base (own_zero ho) (fun g hg => Nat.le_trans hs8 (ho.lt g hg).1)); have B9 := Lib.hid (B8.out.trans (hb9.mono hs8))
        clear ho hb9 O8 B8
        go_wp2
        go_ret
        exact ⟨_, rfl, O9.out, B9.out⟩
      · have n2 : decide (a < n) = false := decide_eq_false hlt2
        rw [if_neg hlt2, List.append_nil] at u1
        rw [u1] at cF1
        have CF := Lib.hid cF1
        clear cF1 u1 u2 u3 hI cF HO HOI
        go_wp2_with fail
        refine (CF.out _ _ (Sl.of_own hO.out)).mono ?_
        rintro e w9 ⟨v9, rfl, ho, hb9⟩
        have O9 := Lib.hid (own_base (own_zero ho) (fun g hg => Nat.le_trans hsz (ho.lt g hg).1)); have B9 := Lib.hid (hB.out.trans (hb9.mono hsz))
        clear ho hb9
        go_wp2
        go_ret
        exact ⟨_, rfl, O9.out, B9.out⟩

end Go.Proofs.Ytdlbjfgpfjcpaaa
