/- compose.All: the composition of several deltas. Condition: the pieces read as values of their types. -/
import Derived.Test.YtdlbjfgpfjcpaaaCompose
namespace Go.Proofs.Ytdlbjfgpfjcpaaa
open Go.RowKit

set_option maxHeartbeats 4000000 in
set_option maxRecDepth 100000 in
theorem all_any (n : Int) (v : Value) (L : List (List Pc)) (w : World) (h : Sll w v L) (hd : ∀ l, l ∈ L → ∀ p, p ∈ l → p.wf) (hL : L.length ≤ 1000000) :
    Calls Try.prog 31 #[.int .i64 n, v] w fun e w' => ∃ v', e = .returned (.tuple #[v', .int .i64 (allE n L)]) ∧ w'.ownsRow w.heap.size 31 3 v' (allR n L).length (pcE.flat (allR n L)) ∧ Below w.heap.size w w' := by
  obtain ⟨B, cap, rfl, h2, h3⟩ := h.form
  have cI := Lib.hid fun w => identity_any n w
  have H := Lib.hid h; have HD := Lib.hid hd
  have hE0 := Lib.hid (show allG (idS n) (idE n) L = allG (idS n) (idE n) (L.drop 0) by rw [List.drop_zero])
  have hI := Lib.hid (idS_ok n).1
  have hR : ∀ E R, allG (idS n) (idE n) L = (E, R) → allE n L = E ∧ allR n L = R := fun E R e => by unfold allE allR; rw [e]; exact ⟨rfl, rfl⟩
  have HR := Lib.hid hR
  generalize allE n L = AE at *
  generalize allR n L = AR at *
  generalize idE n = E0 at *
  generalize idS n = S0 at *
  clear h hd hR
  unfold maxLen at h3
  go_enter Try.func31, Try.ntmps31
  go_wp2_with fail
  refine (cI.out w).mono ?_
  rintro e w1 ⟨v1, rfl, ho, hb⟩
  obtain ⟨A1, c1, rfl⟩ := own_form w1 (own_zero ho)
  have O1 := Lib.hid ho; have B1 := Lib.hid hb
  clear ho hb
  go_wp2_with fail
  go_loopw [6, 7, 17] (fun vo ve i wr => ∃ (k : Nat) (d : List Pc) (E : Int) (A : Option Addr) (c : Nat), k ≤ L.length ∧ i = .int .i64 k ∧ vo = .slice A d.length c ∧ ve = .int .i64 E ∧ Hid (allG S0 E0 L = allG d E (L.drop k)) ∧ Hid (errL d = 0) ∧ Hid (wr.ownsRow w.heap.size 31 3 (.slice A d.length c) d.length (pcE.flat d)) ∧ Hid (Below w.heap.size w wr)) (fun _ _ i _ => L.length - (intOf i).toNat)
  case atStart => exact ⟨0, _, _, _, _, by omega, rfl, rfl, rfl, hE0, hI, O1, B1⟩
  case round =>
    obtain ⟨k, d, E, A, c, hk, rfl, rfl, rfl, hE, hd, hO, hB⟩ := hrel
    have hsz := hB.out.size
    by_cases hlt : k < L.length
    · have hdr : L.drop k = L[k] :: L.drop (k + 1) := List.drop_eq_getElem_cons hlt
      by_cases hz : E = 0
      · subst hz
        have hE2 : allG S0 E0 L = allG (cmpR d L[k]) (cmpE d L[k]) (L.drop (k + 1)) := by rw [hE.out, hdr, allG, if_pos rfl]
        obtain ⟨b, off, cap', A4, c4, hv, hb, hS, hc⟩ := H.out.at_ hlt
        obtain ⟨rfl, rfl⟩ : B = some ⟨b, off, none⟩ ∧ cap = cap' := by injection hv with e1 e2 e3; exact ⟨e1, e3⟩
        have c0 := hc _ hB.out
        have hbw : b < wr.heap.size := Nat.lt_of_lt_of_le hb hsz
        have cC := fun (w : World) (h : Sl pcE w (.slice A d.length c) d) (k' : Sl pcE w (.slice A4 L[k].length c4) L[k]) => compose_any (.slice A d.length c) (.slice A4 L[k].length c4) d L[k] w h k' (wf_of_err hd.out) (HD.out _ (List.getElem_mem hlt))
        have hok : errL (cmpR d L[k]) = 0 := by
          by_cases hc0 : cmpE d L[k] = 0
          · exact (cmpR_ok hc0).2.1
          · rw [cmpR_none hc0]; decide
        have S1 := Lib.hid (hS.ext hB.out)
        have HE2 := Lib.hid hE2; have CC := Lib.hid cC; have HOK := Lib.hid hok
        clear hv hc hE2 cC hok hdr hS hE
        generalize cmpR d L[k] = R at *
        generalize cmpE d L[k] = F at *
        generalize L[k] = l at *
        go_wp2_with fail
        refine (CC.out _ (Sl.of_own hO.out) S1.out).mono ?_
        rintro e w2 ⟨v2, rfl, ho2, hb2⟩
        obtain ⟨A2, c2, rfl⟩ := own_form w2 (own_zero ho2)
        have O2 := Lib.hid (own_base (own_zero ho2) (fun g hg => Nat.le_trans hsz (ho2.lt g hg).1))
        have B2 := Lib.hid (hB.out.trans (hb2.mono hsz))
        clear ho2 hb2 hO hB S1 CC hd
        go_wp2_with fail
        go_roundw
        case rel => exact ⟨k + 1, R, F, A2, c2, by omega, by go_num, rfl, rfl, HE2, HOK, O2, B2⟩
        case measure => simp [intOf]; omega
      · have hfin := HR.out E [] (by rw [hE.out, allG_err hz])
        obtain ⟨rfl, rfl⟩ := hfin
        have hz' : (AE != 0) = true := by simpa using hz
        obtain ⟨b, off, cap', A4, c4, hv, hb, hS, hc⟩ := H.out.at_ hlt
        obtain ⟨rfl, rfl⟩ : B = some ⟨b, off, none⟩ ∧ cap = cap' := by injection hv with e1 e2 e3; exact ⟨e1, e3⟩
        have c0 := hc _ hB.out
        have hbw : b < wr.heap.size := Nat.lt_of_lt_of_le hb hsz
        clear hv hc hz hdr hS hE
        go_wp2
        go_ret2
        exact ⟨_, rfl, World.ownsRow_nil _ _ _ _, hB.out⟩
    · have hdr : L.drop k = [] := List.drop_eq_nil_iff.2 (by omega)
      by_cases hz : E = 0
      · subst hz
        obtain ⟨rfl, rfl⟩ := HR.out 0 d (by rw [hE.out, hdr, allG, if_pos rfl])
        clear hdr hE HR
        go_wp2
        go_ret2
        exact ⟨_, rfl, hO.out, hB.out⟩
      · obtain ⟨rfl, rfl⟩ := HR.out E [] (by rw [hE.out, allG_err hz])
        have hz' : (AE != 0) = true := by simpa using hz
        clear hdr hE HR hz
        go_wp2
        go_ret2
        exact ⟨_, rfl, World.ownsRow_nil _ _ _ _, hB.out⟩

end Go.Proofs.Ytdlbjfgpfjcpaaa
