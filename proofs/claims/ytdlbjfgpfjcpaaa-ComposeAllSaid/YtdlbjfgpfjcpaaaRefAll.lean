/- quartoref03.Identity, quartoref05.All, quartolaw05.long: what they return. Condition: the pieces read as values of their types; All: each delta covers at most 49000 bytes. -/
import Derived.Test.YtdlbjfgpfjcpaaaRef5c
import Derived.Test.YtdlbjfgpfjcpaaaJoin
namespace Go.Proofs.Ytdlbjfgpfjcpaaa
open Go.RowKit

set_option maxHeartbeats 1000000 in
set_option maxRecDepth 100000 in
theorem refIdentity_any (n : Int) (w : World) :
    Calls Try.prog 68 #[.int .i64 n] w fun e w' => ∃ v', e = .returned (.tuple #[v', .int .i64 (idE n)]) ∧ w'.ownsRow w.heap.size 31 3 v' (idS n).length (pcE.flat (idS n)) ∧ Below w.heap.size w w' := by
  by_cases h1 : n < 0
  · have e : idE n = 2 := by unfold idE; rw [if_pos h1]
    have e' : idS n = [] := by unfold idS; rw [e]; rfl
    rw [e, e']
    have d1 : decide (n < 0) = true := decide_eq_true h1
    clear e e'
    go_enter Try.func68, Try.ntmps68
    go_wp2
    go_ret2
    exact ⟨_, rfl, World.ownsRow_nil _ _ _ _, Below.refl _ _⟩
  · have d1 : decide (n < 0) = false := decide_eq_false h1
    by_cases h2 : 1048576 < n
    · have e : idE n = 5 := by unfold idE; rw [if_neg h1, if_pos h2]
      have e' : idS n = [] := by unfold idS; rw [e]; rfl
      rw [e, e']
      have d2 : decide (1048576 < n) = true := decide_eq_true h2
      clear e e'
      go_enter Try.func68, Try.ntmps68
      go_wp2
      go_ret2
      exact ⟨_, rfl, World.ownsRow_nil _ _ _ _, Below.refl _ _⟩
    · have e : idE n = 0 := by unfold idE; rw [if_neg h1, if_neg h2]
      have d2 : decide (1048576 < n) = false := decide_eq_false h2
      by_cases h3 : n = 0
      · subst h3
        have e' : idS 0 = [] := rfl
        rw [e, e']
        clear e e' h1 h2
        go_enter Try.func68, Try.ntmps68
        go_wp2
        go_ret2
        exact ⟨_, rfl, World.ownsRow_nil _ _ _ _, Below.refl _ _⟩
      · have e' : idS n = [⟨1, n, []⟩] := by unfold idS; rw [if_pos e, if_neg h3]
        rw [e, e']
        have h3' : (n == 0) = false := by rw [beq_eq_false_iff_ne]; exact h3
        clear e e' h3
        go_enter Try.func68, Try.ntmps68
        go_wp2
        go_ret2
        refine ⟨_, rfl, ⟨rfl, .inr ⟨w.heap.size, 1, _, rfl, Nat.le_refl _, heap_alloc_new w _, Nat.le_refl _, by simp [maxLen], rfl, rfl⟩⟩, (Below.refl _ _).alloc (Nat.le_refl _) _⟩

set_option maxHeartbeats 4000000 in
set_option maxRecDepth 100000 in
theorem refAll_any (n : Int) (v : Value) (L : List (List Pc)) (w : World) (h : Sll w v L) (hd : ∀ l, l ∈ L → ∀ p, p ∈ l → p.wf) (ho : ∀ l, l ∈ L → errL l = 0 → outL l ≤ 49000) :
    Calls Try.prog 32 #[.int .i64 n, v] w fun e w' => ∃ v', e = .returned (.tuple #[v', .int .i64 (allE n L)]) ∧ w'.ownsRow w.heap.size 31 3 v' (allR n L).length (pcE.flat (allR n L)) ∧ Below w.heap.size w w' := by
  obtain ⟨B, cap, rfl, h2, h3⟩ := h.form
  have cI := Lib.hid fun w => refIdentity_any n w
  have H := Lib.hid h; have HD := Lib.hid hd; have HO := Lib.hid ho
  have hE0 := Lib.hid (show allG (idS n) (idE n) L = allG (idS n) (idE n) (L.drop 0) by rw [List.drop_zero])
  have hI := Lib.hid (idS_ok n).1
  have hR : ∀ E R, allG (idS n) (idE n) L = (E, R) → allE n L = E ∧ allR n L = R := fun E R e => by unfold allE allR; rw [e]; exact ⟨rfl, rfl⟩
  have HR := Lib.hid hR
  generalize allE n L = AE at *
  generalize allR n L = AR at *
  generalize idE n = E0 at *
  generalize idS n = S0 at *
  clear h hd hR ho
  unfold maxLen at h3
  go_enter Try.func32, Try.ntmps32
  go_wp2_with fail
  refine (cI.out w).mono ?_
  rintro e w1 ⟨v1, rfl, ho, hb⟩
  obtain ⟨A1, c1, rfl⟩ := own_form w1 (own_zero ho)
  have O1 := Lib.hid ho; have B1 := Lib.hid hb
  clear ho hb
  go_wp2_with fail
  go_loopw [6, 7, 8] (fun vo ve i wr => ∃ (k : Nat) (d : List Pc) (E : Int) (A : Option Addr) (c : Nat), k ≤ L.length ∧ i = .int .i64 k ∧ vo = .slice A d.length c ∧ ve = .int .i64 E ∧ Hid (allG S0 E0 L = allG d E (L.drop k)) ∧ Hid (errL d = 0) ∧ Hid (wr.ownsRow w.heap.size 31 3 (.slice A d.length c) d.length (pcE.flat d)) ∧ Hid (Below w.heap.size w wr)) (fun _ _ i _ => L.length - (intOf i).toNat)
  case atStart => exact ⟨0, _, _, _, _, by omega, rfl, rfl, rfl, hE0, hI, O1, B1⟩
  case round =>
    obtain ⟨k, d, E, A, c, hk, rfl, rfl, rfl, hE, hd, hO, hB⟩ := hrel
    have hsz := hB.out.size
    by_cases hlt : k < L.length
    · have hdr : L.drop k = L[k] :: L.drop (k + 1) := List.drop_eq_getElem_cons hlt
      by_cases hz : E = 0
      · subst hz
        have hE2 : allG S0 E0 L = allG (cmpR d L[k]) (cmpE d L[k]) (L.drop (k + 1)) := by rw [hE.out, hdr, allG, if_pos rfl]
        obtain ⟨b, off, cap', A4, c4, hv, hb, hS, hc⟩ := H.out.at_ hlt
        obtain ⟨rfl, rfl⟩ : B = some ⟨b, off, none⟩ ∧ cap = cap' := by injection hv with e1 e2 e3; exact ⟨e1, e3⟩
        have c0 := hc _ hB.out
        have hbw : b < wr.heap.size := Nat.lt_of_lt_of_le hb hsz
        have cC := fun (w : World) (h : Sl pcE w (.slice A d.length c) d) (k' : Sl pcE w (.slice A4 L[k].length c4) L[k]) => refCompose_any (.slice A d.length c) (.slice A4 L[k].length c4) d L[k] w h k' (wf_of_err hd.out) (HD.out _ (List.getElem_mem hlt)) (HO.out _ (List.getElem_mem hlt))
        have hok : errL (cmpR d L[k]) = 0 := by
          by_cases hc0 : cmpE d L[k] = 0
          · exact (cmpR_ok hc0).2.1
          · rw [cmpR_none hc0]; decide
        have S1 := Lib.hid (hS.ext hB.out)
        have HE2 := Lib.hid hE2; have CC := Lib.hid cC; have HOK := Lib.hid hok
        clear hv hc hE2 cC hok hdr hS hE
        generalize cmpR d L[k] = R at *
        generalize cmpE d L[k] = F at *
        generalize L[k] = l at *
        go_wp2_with fail
        refine (CC.out _ (Sl.of_own hO.out) S1.out).mono ?_
        rintro e w2 ⟨v2, rfl, ho2, hb2⟩
        obtain ⟨A2, c2, rfl⟩ := own_form w2 (own_zero ho2)
        have O2 := Lib.hid (own_base (own_zero ho2) (fun g hg => Nat.le_trans hsz (ho2.lt g hg).1))
        have B2 := Lib.hid (hB.out.trans (hb2.mono hsz))
        clear ho2 hb2 hO hB S1 CC hd
        go_wp2_with fail
        go_roundw
        case rel => exact ⟨k + 1, R, F, A2, c2, by omega, by go_num, rfl, rfl, HE2, HOK, O2, B2⟩
        case measure => simp [intOf]; omega
      · have hfin := HR.out E [] (by rw [hE.out, allG_err hz])
        obtain ⟨rfl, rfl⟩ := hfin
        have hz' : (AE != 0) = true := by simpa using hz
        have hz'' : (AE == 0) = false := by simpa using hz
        clear hz hdr hE
        go_wp2
        go_ret2
        exact ⟨_, rfl, World.ownsRow_nil _ _ _ _, hB.out⟩
    · have hdr : L.drop k = [] := List.drop_eq_nil_iff.2 (by omega)
      by_cases hz : E = 0
      · subst hz
        obtain ⟨rfl, rfl⟩ := HR.out 0 d (by rw [hE.out, hdr, allG, if_pos rfl])
        clear hdr hE HR
        go_wp2
        go_ret2
        exact ⟨_, rfl, hO.out, hB.out⟩
      · obtain ⟨rfl, rfl⟩ := HR.out E [] (by rw [hE.out, allG_err hz])
        have hz' : (AE != 0) = true := by simpa using hz
        have hz'' : (AE == 0) = false := by simpa using hz
        clear hdr hE HR hz
        go_wp2
        go_ret2
        exact ⟨_, rfl, World.ownsRow_nil _ _ _ _, hB.out⟩

def longB (n : Int) (L : List (List Pc)) : Bool := decide (6000 < n) || decide (12 < L.length) || L.any largeB
theorem longB_no {n : Int} {L : List (List Pc)} (h : longB n L = false) : n ≤ 6000 ∧ L.length ≤ 12 ∧ ∀ l ∈ L, largeB l = false := by
  unfold longB at h
  simp only [Bool.or_eq_false_iff, decide_eq_false_iff_not, List.any_eq_false] at h
  exact ⟨by omega, by omega, fun l hl => by simpa using h.2 l hl⟩
set_option maxHeartbeats 2000000 in
set_option maxRecDepth 100000 in
theorem long5_any (n : Int) (v : Value) (L : List (List Pc)) (w : World) (h : Sll w v L) (hq : ∀ l ∈ L, (∀ p ∈ l, p.wf) ∧ l.length * 32 ≤ 140737488355328 ∧ ∀ p ∈ l, p.t.length ≤ 140737488355328) :
    Calls Try.prog 30 #[.int .i64 n, v] w fun e w' => e = .returned (.bool (longB n L)) ∧ Below w.heap.size w w' := by
  obtain ⟨B, cap, rfl, h2, h3⟩ := h.form
  have H := Lib.hid h; have HQ := Lib.hid hq
  clear h hq
  unfold maxLen at h3
  by_cases h1 : 6000 < n
  · have e : longB n L = true := by simp [longB, h1]
    rw [e]
    have d1 : decide (6000 < n) = true := decide_eq_true h1
    clear e
    go_enter Try.func30, Try.ntmps30
    go_wp2
    go_ret
    exact ⟨rfl, Below.refl _ _⟩
  · have d1 : decide (6000 < n) = false := decide_eq_false h1
    by_cases h4 : 12 < L.length
    · have e : longB n L = true := by simp [longB, h4]
      rw [e]
      have d2 : decide (12 < (L.length : Int)) = true := decide_eq_true (by omega)
      clear e
      go_enter Try.func30, Try.ntmps30
      go_wp2
      go_ret
      exact ⟨rfl, Below.refl _ _⟩
    · have d2 : decide (12 < (L.length : Int)) = false := decide_eq_false (by omega)
      have e : longB n L = L.any largeB := by simp [longB, h1, h4]
      rw [e]
      clear e
      go_enter Try.func30, Try.ntmps30
      go_wp2_with fail
      go_loopw [5] (fun i wr => ∃ k : Nat, k ≤ L.length ∧ i = .int .i64 k ∧ Hid (∀ l ∈ L.take k, largeB l = false) ∧ Hid (Below w.heap.size w wr)) (fun i _ => L.length - (intOf i).toNat)
      case atStart => exact ⟨0, by omega, rfl, Lib.hid (by simp), Lib.hid (Below.refl _ _)⟩
      case round =>
        obtain ⟨k, hk, rfl, hA, hB⟩ := hrel
        have hsz := hB.out.size
        by_cases hlt : k < L.length
        · obtain ⟨b, off, cap', A4, c4, hv, hb, hS, hc⟩ := H.out.at_ hlt
          obtain ⟨rfl, rfl⟩ : B = some ⟨b, off, none⟩ ∧ cap = cap' := by injection hv with e1 e2 e3; exact ⟨e1, e3⟩
          have c0 := hc _ hB.out
          have hbw : b < wr.heap.size := Nat.lt_of_lt_of_le hb hsz
          have hm := List.getElem_mem hlt
          obtain ⟨q1, q2, q3⟩ := HQ.out _ hm
          have cC := fun (w : World) (h : Sl pcE w (.slice A4 L[k].length c4) L[k]) => large_any (.slice A4 L[k].length c4) L[k] w h q1 q3
          have S1 := Lib.hid (hS.ext hB.out)
          rcases hg : largeB L[k] with g | g
          · rw [hg] at cC
            have hA2 : ∀ l ∈ L.take (k + 1), largeB l = false := fun l hl => by
              rw [List.take_succ_eq_append_getElem hlt] at hl
              rcases List.mem_append.1 hl with hl | hl
              · exact hA.out l hl
              · rw [List.mem_singleton.1 hl]; exact hg
            have HA2 := Lib.hid hA2; have CC := Lib.hid cC
            clear hv hc hS hA hA2 cC hg q1 q2 q3 hm
            generalize L[k] = l at *
            go_wp2_with fail
            refine (CC.out _ S1.out).mono ?_
            rintro e w2 ⟨rfl, hb2⟩
            have B2 := Lib.hid (hB.out.trans (hb2.mono hsz))
            clear hb2 hB S1 CC
            go_wp2_with fail
            go_roundw
            case rel => exact ⟨k + 1, by omega, by go_num, HA2, B2⟩
            case measure => simp [intOf]; omega
          · rw [hg] at cC
            have ht : L.any largeB = true := List.any_eq_true.2 ⟨_, hm, hg⟩
            have CC := Lib.hid cC; have HT := Lib.hid ht
            clear hv hc hS hA cC hg q1 q2 q3 hm ht
            generalize L[k] = l at *
            go_wp2_with fail
            refine (CC.out _ S1.out).mono ?_
            rintro e w2 ⟨rfl, hb2⟩
            have B2 := Lib.hid (hB.out.trans (hb2.mono hsz))
            clear hb2 hB S1 CC
            go_wp2
            go_ret
            exact ⟨by rw [HT.out]; rfl, B2.out⟩
        · have ht : L.any largeB = false := by
            rw [List.any_eq_false]
            intro l hl
            have := hA.out l (by rw [List.take_of_length_le (by omega)]; exact hl)
            simp [this]
          have HT := Lib.hid ht
          clear ht hA
          go_wp2
          go_ret
          exact ⟨by rw [HT.out]; rfl, hB.out⟩

end Go.Proofs.Ytdlbjfgpfjcpaaa
