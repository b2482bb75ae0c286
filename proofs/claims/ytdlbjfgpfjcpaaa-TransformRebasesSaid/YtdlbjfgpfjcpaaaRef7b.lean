/- quartoref07.Texts: the texts at each offset. Condition: a valid delta. -/
import Derived.Test.YtdlbjfgpfjcpaaaRef7a
import Derived.Test.YtdlbjfgpfjcpaaaPlainT4
import Derived.Test.YtdlbjfgpfjcpaaaRef3c
import Derived.Test.YtdlbjfgpfjcpaaaBoth5
namespace Go.Proofs.Ytdlbjfgpfjcpaaa
open Go.RowKit

theorem cat7 (a b : List UInt8) : (⟨a.toArray⟩ : ByteArray) ++ (⟨b.toArray⟩ : ByteArray) = ⟨(a ++ b).toArray⟩ := by
  apply ByteArray.ext
  simp
def rowV (R : List (List UInt8)) (i : Nat) : Value := .string ⟨(R.getD i []).toArray⟩
theorem rowV_set {R R' : List (List UInt8)} {q : Nat} {t : List UInt8} (h : R' = R.set q (R.getD q [] ++ t)) {M : Nat} (hM : R.length = M) (hq : q < M) : ∀ i, i < M → (if i = q then Value.string ⟨(R.getD q [] ++ t).toArray⟩ else rowV R i) = rowV R' i := by
  intro i hi
  subst h
  unfold rowV
  by_cases e : i = q
  · subst e
    rw [if_pos rfl]
    simp [List.getD_eq_getElem?_getD, List.getElem?_set_self (hM ▸ hq)]
  · rw [if_neg e]
    simp only [List.getD_eq_getElem?_getD, List.getElem?_set_ne (fun h => e h.symm)]
theorem rowV_sl {w : World} {L : Nat} {R : List (List UInt8)} (hr : w.rowIs L 9 R.length (rowV R)) (hm : R.length ≤ maxLen) : Sl stE w (.slice (some ⟨L, 0, none⟩) R.length R.length) R := by
  refine ⟨_, R.length, rfl, Nat.le_refl _, hm, fun _ => ⟨L, 0, rfl, hr.lt, fun i j x u hx hu => ?_⟩⟩
  obtain ⟨hi, rfl⟩ := List.getElem?_eq_some_iff.1 hx
  have hj : j = 0 := by
    have := (List.getElem?_eq_some_iff.1 hu).1
    simpa [stE] using this
  subst hj
  have hu' : some (Value.string ⟨R[i].toArray⟩) = some u := hu
  have := hr.cell hi
  rw [rowV, List.getD_eq_getElem?_getD, List.getElem?_eq_getElem hi] at this
  rw [← hu']
  have e : 0 + (i * stE.sz + 0) = i := by simp [stE]
  rw [e]
  exact this

set_option maxHeartbeats 4000000 in
set_option maxRecDepth 100000 in
theorem texts7_any (v : Value) (l : List Pc) (w : World) (h : Sl pcE w v l) (h0 : errL l = 0) :
    Calls Try.prog 90 #[v] w fun e w' => ∃ v', e = .returned v' ∧ Sl stE w' v' (textsL (formS l)) ∧ Below w.heap.size w w' := by
  obtain ⟨j0, hj, jz0, jz1, jz2⟩ := info_parts infoStr7
  have vl := ((errL_iff l).1 h0).2.1
  have il := ((errL_iff l).1 h0).2.2.1
  have ol := ((errL_iff l).1 h0).2.2.2
  rw [← outL_formS vl] at ol
  obtain ⟨f1, f2, f3⟩ := formS_ok vl
  have ef := form_err h0
  have cF := fun w h => refForm_any v l w h (formPre_of_lens h0) vl
  have cS := fun x w h => refSizes_any x (formS l) w h (formPre_of_lens ef)
  rw [sizes_io f1] at cS
  have hlen := ((errL_iff _).1 ef).1
  have smp := smp_of ef
  obtain ⟨N, hN⟩ := Int.eq_ofNat_of_zero_le (Val.inL f1)
  have hN2 : N ≤ 1048576 := by omega
  generalize formS l = F at *
  rw [hN] at cS
  generalize hO1 : outL F = O1 at *
  obtain ⟨M, hM⟩ : ∃ M, M = N + 1 := ⟨_, rfl⟩
  have hw : IntKind.i64.wrap ((N : Int) + 1) = (M : Int) := by rw [IntWalk.i64_in _ (by omega)]; omega
  have OL := Lib.hid ol
  clear ol
  have H := Lib.hid h; have CF := Lib.hid cF; have CS := Lib.hid cS; have HN := Lib.hid hN; have HM := Lib.hid hM; have F1 := Lib.hid f1
  clear cF cS h hN hM f1 f2 f3 ef vl il h0
  have HO1 := Lib.hid hO1
  clear hO1
  go_enter Try.func90, Try.ntmps90
  go_wp2_with fail
  refine (CF.out _ H.out).mono ?_
  rintro e w1 ⟨v1, rfl, ho, hb⟩
  have S1 := Lib.hid (Sl.of_own ho); have B1 := Lib.hid hb
  clear hb ho H CF
  go_wp2_with fail
  refine (CS.out _ _ S1.out).mono ?_
  rintro e w2 ⟨rfl, hb⟩
  have S2 := Lib.hid (S1.out.ext hb); have B2 := Lib.hid (B1.out.trans (hb.mono B1.out.size))
  clear hb S1 B1 CS
  have hmk := run_make_row (P := Try.prog) 101 9 j0 (.string ⟨#[]⟩) Try.underlying101 hj jz0 jz1 rfl .i64 .i64 M (by rw [jz2]; have := HM.out; omega) (by have := HM.out; omega) w2
  have HR := Lib.hid (World.rowIs_made w2 (.string ⟨#[]⟩) M 9)
  have HG := Lib.hid (show Below w2.heap.size w2 (w2.alloc (.cells (madeCells #[.string ⟨#[]⟩] M) 9)) from bal (Below.refl _ _))
  have L1 := B2.out.size
  generalize w2.alloc (.cells (madeCells #[.string ⟨#[]⟩] M) 9) = W1 at *
  obtain ⟨A, cap, rfl, h2, h3, -⟩ := id S2.out
  unfold maxLen at h3
  go_wp2_with fail
  go_loopw [7, 8] (fun a i wr => ∃ k q : Nat, k ≤ F.length ∧ i = .int .i64 k ∧ a = .int .i64 q ∧ q ≤ N ∧ Hid (inL (F.take k) = q) ∧ Hid (wr.rowIs w2.heap.size 9 M (rowV (textsR (F.take k) N))) ∧ Hid (Below w2.heap.size w2 wr)) (fun _ i _ => F.length - (intOf i).toNat)
  case atStart => exact ⟨0, 0, by omega, rfl, rfl, by omega, Lib.hid rfl, Lib.hid (HR.out.congr fun i hi => by
    have e : textsR (F.take 0) N = List.replicate (N + 1) [] := textsR_nil N
    rw [e, rowV]
    simp [List.getD_eq_getElem?_getD, List.getElem?_replicate]
    split <;> rfl), HG⟩
  case round =>
    obtain ⟨k, q, hk, rfl, rfl, hq, hqi, hO, hB⟩ := hrel
    have hsz := hB.out.size
    by_cases hlt : k < F.length
    · obtain ⟨b', off', cap', hv, hb, hcells⟩ := S2.out.pcB hlt
      obtain ⟨rfl, rfl⟩ : A = some ⟨b', off', none⟩ ∧ cap = cap' := by injection hv with e1 e2 e3; exact ⟨e1, e3⟩
      obtain ⟨c0, c1, c2⟩ := hcells _ hB.out
      obtain ⟨sv, s1, s2⟩ := smp F[k] (List.getElem_mem hlt)
      have hn := Val.n sv
      have htk : F.take (k + 1) = F.take k ++ [F[k]] := List.take_succ_eq_append_getElem hlt
      have vt : Val (F.take k) := fun p hp => F1.out p (List.mem_of_mem_take hp)
      have e1 : inL (F.take (k + 1)) = q + F[k].n := by rw [htk, inL_append, hqi.out]; simp [inL]
      have hin := inL_take F1.out (k + 1)
      rw [e1, HN.out] at hin
      have hsn := textsR_snoc (F.take k) F[k] N vt sv (by rw [hqi.out]; omega)
      rw [← htk, show (inL (F.take k)).toNat = q by rw [hqi.out]; omega] at hsn
      have hMq : q < M := by have := HM.out; omega
      have r0 := hO.out.cell hMq
      have r1 := hO.out.frozen q
      have r2 := hO.out.lt
      have hbw : b' < wr.heap.size := Nat.lt_of_lt_of_le hb hsz
      have hlenR : (textsR (F.take k) N).length = M := by rw [textsR_len vt (by rw [hqi.out]; omega), HM.out]
      have hR' := (hO.out.set q (.string ⟨((textsR (F.take k) N).getD q [] ++ F[k].t).toArray⟩)).congr (rowV_set hsn hlenR hMq)
      obtain ⟨m, hm⟩ := Int.eq_ofNat_of_zero_le hn
      have hle := textsR_le vt N q
      have hle2 := outL_take F1.out k
      rw [HO1.out] at hle2
      have hle3 := OL.out
      have hcat := cat7 ((textsR (F.take k) N).getD q []) F[k].t
      rw [rowV] at r0
      have HR' := Lib.hid hR'
      have HB' := Lib.hid (hB.out.setCell (p := ⟨w2.heap.size, q, none⟩) (Nat.le_refl _) (.string ⟨((textsR (F.take k) N).getD q [] ++ F[k].t).toArray⟩))
      rw [hm] at c1 hin e1 s1
      have E1 := Lib.hid e1
      have hw2 : IntKind.i64.wrap ((q : Int) + (m : Int)) = ((q + m : Nat) : Int) := by rw [IntWalk.i64_in _ (by omega)]; omega
      clear hv hcells hR' HR HG htk vt e1 hsn hlenR hm hn sv hqi
      generalize (textsR (F.take k) N).getD q [] = S at *
      have hcl : ¬ 9223372036854775807 < S.length + F[k].t.length := by omega
      clear hle hle2 hle3 s2
      generalize F[k].t = pt at *
      generalize F[k].k = pk at *
      go_wp2_with fail
      go_region
      all_goals go_wp2_with fail
      all_goals go_roundw
      case rel =>
        exact ⟨k + 1, q + m, by omega, by go_num, by simp, by omega, Lib.hid (by rw [E1.out]; rfl), HR', Lib.hid HB'.out.drew⟩
      all_goals (simp [intOf]; omega)
    · have hkl : F.take k = F := List.take_of_length_le (by omega)
      have hO' := hO.out
      rw [hkl, textsR_all HN.out] at hO'
      have hlM : (textsL F).length = M := by have := (texts_len F1.out).1; have := HN.out; have := HM.out; omega
      rw [← hlM] at hO'
      have HS := Lib.hid (rowV_sl hO' (by rw [hlM]; have := HM.out; unfold maxLen; omega))
      rw [hlM] at HS
      have HBf := Lib.hid (B2.out.trans (hB.out.mono L1))
      clear hO' hkl hO hB HR HG
      go_wp2
      go_ret
      exact ⟨_, rfl, HS.out, HBf.out⟩

end Go.Proofs.Ytdlbjfgpfjcpaaa
