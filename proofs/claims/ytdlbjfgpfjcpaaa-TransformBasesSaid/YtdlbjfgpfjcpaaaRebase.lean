/- transform.Rebase: a delta transformed against several ones. Condition: the pieces read as values of their types. -/
import Derived.Test.YtdlbjfgpfjcpaaaPairs7
import Derived.Test.YtdlbjfgpfjcpaaaPlainT1
namespace Go.Proofs.Ytdlbjfgpfjcpaaa
open Go.RowKit

set_option maxHeartbeats 4000000 in
set_option maxRecDepth 100000 in
theorem rebase_any (u : Value) (d : List Pc) (v : Value) (L : List (List Pc)) (w : World) (hs : Sl pcE w u d) (hsd : ∀ p, p ∈ d → p.wf) (h : Sll w v L) (hd : ∀ l, l ∈ L → ∀ p, p ∈ l → p.wf) (hL : L.length ≤ 1000000) :
    Calls Try.prog 57 #[u, v] w fun e w' => ∃ v', e = .returned (.tuple #[v', .int .i64 (rebE d L)]) ∧ w'.ownsRow w.heap.size 31 3 v' (rebR d L).length (pcE.flat (rebR d L)) ∧ Below w.heap.size w w' := by
  obtain ⟨B, cap, rfl, h2, h3⟩ := h.form
  have cI := Lib.hid fun w h => normalize_any u d w h hsd
  have H := Lib.hid h; have HD := Lib.hid hd; have HS := Lib.hid hs
  have hE0 := Lib.hid (show rebG (normS d) (errL d) L = rebG (normS d) (errL d) (L.drop 0) by rw [List.drop_zero])
  have hI := Lib.hid (wf_err (normS_fine d).1)
  have hR : ∀ E R, rebG (normS d) (errL d) L = (E, R) → rebE d L = E ∧ rebR d L = R := fun E R e => by unfold rebE rebR; rw [e]; exact ⟨rfl, rfl⟩
  have HR := Lib.hid hR
  generalize rebE d L = AE at *
  generalize rebR d L = AR at *
  generalize errL d = E0 at *
  generalize normS d = S0 at *
  clear h hd hR hs hsd
  unfold maxLen at h3
  go_enter Try.func57, Try.ntmps57
  go_wp2_with fail
  refine (cI.out w HS.out).mono ?_
  rintro e w1 ⟨v1, rfl, ho, hb⟩
  obtain ⟨A1, c1, rfl⟩ := own_form w1 (own_zero ho)
  have O1 := Lib.hid ho; have B1 := Lib.hid hb
  clear ho hb
  go_wp2_with fail
  go_loopw [6, 7, 8] (fun vo ve i wr => ∃ (k : Nat) (d : List Pc) (E : Int) (A : Option Addr) (c : Nat), k ≤ L.length ∧ i = .int .i64 k ∧ vo = .slice A d.length c ∧ ve = .int .i64 E ∧ Hid (rebG S0 E0 L = rebG d E (L.drop k)) ∧ Hid (∀ p, p ∈ d → p.wf) ∧ Hid (wr.ownsRow w.heap.size 31 3 (.slice A d.length c) d.length (pcE.flat d)) ∧ Hid (Below w.heap.size w wr)) (fun _ _ i _ => L.length - (intOf i).toNat)
  case atStart => exact ⟨0, _, _, _, _, by omega, rfl, rfl, rfl, hE0, hI, O1, B1⟩
  case round =>
    obtain ⟨k, d, E, A, c, hk, rfl, rfl, rfl, hE, hd, hO, hB⟩ := hrel
    have hsz := hB.out.size
    by_cases hlt : k < L.length
    · have hdr : L.drop k = L[k] :: L.drop (k + 1) := List.drop_eq_getElem_cons hlt
      by_cases hz : E = 0
      · subst hz
        have hE2 : rebG S0 E0 L = rebG (trR true L[k] d) (trE true L[k] d) (L.drop (k + 1)) := by rw [hE.out, hdr, rebG, if_pos rfl]
        obtain ⟨b, off, cap', A4, c4, hv, hb, hS, hc⟩ := H.out.at_ hlt
        obtain ⟨rfl, rfl⟩ : B = some ⟨b, off, none⟩ ∧ cap = cap' := by injection hv with e1 e2 e3; exact ⟨e1, e3⟩
        have c0 := hc _ hB.out
        have hbw : b < wr.heap.size := Nat.lt_of_lt_of_le hb hsz
        have cC := fun (w : World) (h : Sl pcE w (.slice A d.length c) d) (k' : Sl pcE w (.slice A4 L[k].length c4) L[k]) => transform_any (.slice A4 L[k].length c4) (.slice A d.length c) L[k] d true w k' h (HD.out _ (List.getElem_mem hlt)) hd.out
        have hok := wf_tr true L[k] d
        have S1 := Lib.hid (hS.ext hB.out)
        have HE2 := Lib.hid hE2; have CC := Lib.hid cC; have HOK := Lib.hid hok
        clear hv hc hE2 cC hok hdr hS hE
        generalize trR true L[k] d = R at *
        generalize trE true L[k] d = F at *
        generalize L[k] = l at *
        go_wp2_with fail
        refine (CC.out _ (Sl.of_own hO.out) S1.out).mono ?_
        rintro e w2 ⟨v2, rfl, ho2, hb2⟩
        obtain ⟨A2, c2, rfl⟩ := own_form w2 (own_zero ho2)
        have O2 := Lib.hid (own_base (own_zero ho2) (fun g hg => Nat.le_trans hsz (ho2.lt g hg).1))
        have B2 := Lib.hid (hB.out.trans (hb2.mono hsz))
        clear ho2 hb2 hO hB S1 CC hd
        go_wp2_with fail
        go_roundw
        case rel => exact ⟨k + 1, R, F, A2, c2, by omega, by go_num, rfl, rfl, HE2, HOK, O2, B2⟩
        case measure => simp [intOf]; omega
      · have hfin := HR.out E [] (by rw [hE.out, rebG_err hz])
        obtain ⟨rfl, rfl⟩ := hfin
        have hz' : (AE == 0) = false := by rw [beq_eq_false_iff_ne]; exact hz
        clear hz hdr hE
        go_wp2
        go_ret2
        exact ⟨_, rfl, World.ownsRow_nil _ _ _ _, hB.out⟩
    · have hdr : L.drop k = [] := List.drop_eq_nil_iff.2 (by omega)
      by_cases hz : E = 0
      · subst hz
        obtain ⟨rfl, rfl⟩ := HR.out 0 d (by rw [hE.out, hdr, rebG, if_pos rfl])
        clear hdr hE HR
        go_wp2
        go_ret2
        exact ⟨_, rfl, hO.out, hB.out⟩
      · obtain ⟨rfl, rfl⟩ := HR.out E [] (by rw [hE.out, rebG_err hz])
        have hz' : (AE == 0) = false := by rw [beq_eq_false_iff_ne]; exact hz
        clear hdr hE HR hz
        go_wp2
        go_ret2
        exact ⟨_, rfl, World.ownsRow_nil _ _ _ _, hB.out⟩

end Go.Proofs.Ytdlbjfgpfjcpaaa
