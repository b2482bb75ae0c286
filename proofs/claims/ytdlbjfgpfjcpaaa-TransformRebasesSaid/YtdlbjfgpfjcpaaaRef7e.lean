/- quartoref07.Rebase, Disjoint: what they return. Condition: the pieces read as values of their types; the deltas cover at most 6000 bytes. -/
import Derived.Test.YtdlbjfgpfjcpaaaRef7d
import Derived.Test.YtdlbjfgpfjcpaaaRebase
import Derived.Test.YtdlbjfgpfjcpaaaDisj
namespace Go.Proofs.Ytdlbjfgpfjcpaaa
open Go.RowKit

set_option maxHeartbeats 2000000 in
set_option maxRecDepth 100000 in
theorem refNorm7_any (v : Value) (l : List Pc) (w : World) (h : Sl pcE w v l) (hd : ∀ p, p ∈ l → p.wf) :
    Calls Try.prog 88 #[v] w fun e w' => ∃ v', e = .returned (.tuple #[v', .int .i64 (errL l)]) ∧ w'.ownsRow w.heap.size 31 3 v' (normS l).length (pcE.flat (normS l)) ∧ Below w.heap.size w w' := by
  have cC : ∀ w, Sl pcE w v l → Calls Try.prog 63 #[v] w fun e w' => e = .returned (.int .i64 (errL l)) ∧ Below w.heap.size w w' := fun w h => refCheck_any v l w h hd
  have H := Lib.hid h
  by_cases h0 : errL l = 0
  · have cF := fun w h => refForm_any v l w h (formPre_of_lens h0) ((errL_iff l).1 h0).2.1
    have hn : normS l = formS l := by simp [normS, h0]
    rw [hn, h0]
    rw [h0] at cC
    generalize formS l = F at *
    have CC := Lib.hid cC; have CF := Lib.hid cF
    clear cC cF hn h0 h hd
    go_enter Try.func88, Try.ntmps88
    go_wp2_with fail
    refine (CC.out _ H.out).mono ?_
    rintro e w1 ⟨rfl, hb⟩
    have H1 := Lib.hid (H.out.ext hb); have B1 := Lib.hid hb
    clear hb H
    go_wp2_with fail
    refine (CF.out _ H1.out).mono ?_
    rintro e w2 ⟨v2, rfl, ho, hb⟩
    have O2 := Lib.hid (own_base (own_zero ho) (fun g hg => Nat.le_trans B1.out.size (ho.lt g hg).1)); have B2 := Lib.hid (B1.out.trans (hb.mono B1.out.size))
    clear hb ho H1 B1
    go_wp2
    go_ret2
    exact ⟨v2, rfl, O2.out, B2.out⟩
  · have hn : normS l = [] := by simp [normS, h0]
    rw [hn]
    have hne : (errL l != 0) = true := by simpa using h0
    generalize errL l = E at *
    have CC := Lib.hid cC
    clear cC hn h0 h hd
    go_enter Try.func88, Try.ntmps88
    go_wp2_with fail
    refine (CC.out _ H.out).mono ?_
    rintro e w1 ⟨rfl, hb⟩
    have B1 := Lib.hid hb
    clear hb H
    go_wp2
    go_ret2
    exact ⟨_, rfl, World.ownsRow_nil _ _ _ _, B1.out⟩

set_option maxHeartbeats 4000000 in
set_option maxRecDepth 100000 in
theorem refRebase7_any (u : Value) (d : List Pc) (v : Value) (L : List (List Pc)) (w : World) (hs : Sl pcE w u d) (hsd : ∀ p, p ∈ d → p.wf) (h : Sll w v L) (hd : ∀ l, l ∈ L → ∀ p, p ∈ l → p.wf) (hB0 : ∀ l, l ∈ L → errL l = 0 → outL l ≤ 6000) (hN : errL d = 0 → iN d ≤ 6000) :
    Calls Try.prog 58 #[u, v] w fun e w' => ∃ v', e = .returned (.tuple #[v', .int .i64 (rebE d L)]) ∧ w'.ownsRow w.heap.size 31 3 v' (rebR d L).length (pcE.flat (rebR d L)) ∧ Below w.heap.size w w' := by
  obtain ⟨B, cap, rfl, h2, h3⟩ := h.form
  have cI := Lib.hid fun w h => refNorm7_any u d w h hsd
  have H := Lib.hid h; have HD := Lib.hid hd; have HS := Lib.hid hs
  have hE0 := Lib.hid (show rebG (normS d) (errL d) L = rebG (normS d) (errL d) (L.drop 0) by rw [List.drop_zero])
  have hI := Lib.hid (show (∀ p, p ∈ normS d → p.wf) ∧ iN (normS d) ≤ 6000 from ⟨wf_err (normS_fine d).1, by
    by_cases e : errL d = 0
    · rw [normS, if_pos e, (kN_form ((errL_iff d).1 e).2.1).2.1]; exact hN e
    · rw [normS, if_neg e]; simp [iN]⟩)
  have HB0 := Lib.hid hB0
  have hR : ∀ E R, rebG (normS d) (errL d) L = (E, R) → rebE d L = E ∧ rebR d L = R := fun E R e => by unfold rebE rebR; rw [e]; exact ⟨rfl, rfl⟩
  have HR := Lib.hid hR
  generalize rebE d L = AE at *
  generalize rebR d L = AR at *
  generalize errL d = E0 at *
  generalize normS d = S0 at *
  clear h hd hR hs hsd hB0 hN
  unfold maxLen at h3
  go_enter Try.func58, Try.ntmps58
  go_wp2_with fail
  refine (cI.out w HS.out).mono ?_
  rintro e w1 ⟨v1, rfl, ho, hb⟩
  obtain ⟨A1, c1, rfl⟩ := own_form w1 (own_zero ho)
  have O1 := Lib.hid ho; have B1 := Lib.hid hb
  clear ho hb
  go_wp2_with fail
  go_loopw [6, 7, 8] (fun vo ve i wr => ∃ (k : Nat) (d : List Pc) (E : Int) (A : Option Addr) (c : Nat), k ≤ L.length ∧ i = .int .i64 k ∧ vo = .slice A d.length c ∧ ve = .int .i64 E ∧ Hid (rebG S0 E0 L = rebG d E (L.drop k)) ∧ Hid ((∀ p, p ∈ d → p.wf) ∧ iN d ≤ 6000) ∧ Hid (wr.ownsRow w.heap.size 31 3 (.slice A d.length c) d.length (pcE.flat d)) ∧ Hid (Below w.heap.size w wr)) (fun _ _ i _ => L.length - (intOf i).toNat)
  case atStart => exact ⟨0, _, _, _, _, by omega, rfl, rfl, rfl, hE0, hI, O1, B1⟩
  case round =>
    obtain ⟨k, d, E, A, c, hk, rfl, rfl, rfl, hE, hd, hO, hB⟩ := hrel
    have hsz := hB.out.size
    by_cases hlt : k < L.length
    · have hdr : L.drop k = L[k] :: L.drop (k + 1) := List.drop_eq_getElem_cons hlt
      by_cases hz : E = 0
      · subst hz
        have hE2 : rebG S0 E0 L = rebG (trR true L[k] d) (trE true L[k] d) (L.drop (k + 1)) := by rw [hE.out, hdr, rebG, if_pos rfl]
        obtain ⟨b, off, cap', A4, c4, hv, hb, hS, hc⟩ := H.out.at_ hlt
        obtain ⟨rfl, rfl⟩ : B = some ⟨b, off, none⟩ ∧ cap = cap' := by injection hv with e1 e2 e3; exact ⟨e1, e3⟩
        have c0 := hc _ hB.out
        have hbw : b < wr.heap.size := Nat.lt_of_lt_of_le hb hsz
        have cC := fun (w : World) (h : Sl pcE w (.slice A d.length c) d) (k' : Sl pcE w (.slice A4 L[k].length c4) L[k]) => refTrans7_any (.slice A4 L[k].length c4) (.slice A d.length c) L[k] d true w k' h (HD.out _ (List.getElem_mem hlt)) hd.out.1 (fun e => by
          have := HB0.out _ (List.getElem_mem hlt) (prE_ok e).1
          have := hd.out.2
          omega)
        have hok : (∀ p, p ∈ trR true L[k] d → p.wf) ∧ iN (trR true L[k] d) ≤ 6000 := ⟨wf_tr true L[k] d, by
          by_cases e : trE true L[k] d = 0
          · obtain ⟨ea, eb, ei, -⟩ := trE_ok e
            have e2 := (trS_rel true ea eb ei).outB.2
            rw [(trR_ok e).1, (kN_form (trS_ok true ea eb ei).1.val).2.1, e2, (kN_form ((errL_iff d).1 eb).2.1).2.1]
            exact hd.out.2
          · rw [trR_none e]; simp [iN]⟩
        have S1 := Lib.hid (hS.ext hB.out)
        have HE2 := Lib.hid hE2; have CC := Lib.hid cC; have HOK := Lib.hid hok
        clear hv hc hE2 cC hok hdr hS hE
        generalize trR true L[k] d = R at *
        generalize trE true L[k] d = F at *
        generalize L[k] = l at *
        go_wp2_with fail
        refine (CC.out _ (Sl.of_own hO.out) S1.out).mono ?_
        rintro e w2 ⟨v2, rfl, ho2, hb2⟩
        obtain ⟨A2, c2, rfl⟩ := own_form w2 (own_zero ho2)
        have O2 := Lib.hid (own_base (own_zero ho2) (fun g hg => Nat.le_trans hsz (ho2.lt g hg).1))
        have B2 := Lib.hid (hB.out.trans (hb2.mono hsz))
        clear ho2 hb2 hO hB S1 CC hd
        go_wp2_with fail
        go_roundw
        case rel => exact ⟨k + 1, R, F, A2, c2, by omega, by go_num, rfl, rfl, HE2, HOK, O2, B2⟩
        case measure => simp [intOf]; omega
      · have hfin := HR.out E [] (by rw [hE.out, rebG_err hz])
        obtain ⟨rfl, rfl⟩ := hfin
        have hz' : (AE == 0) = false := by rw [beq_eq_false_iff_ne]; exact hz
        clear hz hdr hE
        go_wp2
        go_ret2
        exact ⟨_, rfl, World.ownsRow_nil _ _ _ _, hB.out⟩
    · have hdr : L.drop k = [] := List.drop_eq_nil_iff.2 (by omega)
      by_cases hz : E = 0
      · subst hz
        obtain ⟨rfl, rfl⟩ := HR.out 0 d (by rw [hE.out, hdr, rebG, if_pos rfl])
        clear hdr hE HR
        go_wp2
        go_ret2
        exact ⟨_, rfl, hO.out, hB.out⟩
      · obtain ⟨rfl, rfl⟩ := HR.out E [] (by rw [hE.out, rebG_err hz])
        have hz' : (AE == 0) = false := by rw [beq_eq_false_iff_ne]; exact hz
        clear hdr hE HR hz
        go_wp2
        go_ret2
        exact ⟨_, rfl, World.ownsRow_nil _ _ _ _, hB.out⟩


theorem disL_at (X Y : List (List UInt8)) (K L : List Bool) (k : Nat) (hx : k < X.length) (hy : k < Y.length) :
    disL (X.drop k) (Y.drop k) (K.drop k) (L.drop k) = if (X[k] ≠ [] ∧ Y[k] ≠ []) ∨ ((K.drop k).headD true = false ∧ (L.drop k).headD true = false) then false else disL (X.drop (k + 1)) (Y.drop (k + 1)) (K.drop (k + 1)) (L.drop (k + 1)) := by
  rw [drop_head hx, drop_head hy, disL, List.headD_cons, List.tail_cons, List.tail_drop, List.tail_drop]
theorem disL_end (X Y : List (List UInt8)) (K L : List Bool) (k : Nat) (hx : ¬ k < X.length) : disL (X.drop k) (Y.drop k) (K.drop k) (L.drop k) = true := by
  rw [List.drop_eq_nil_iff.2 (by omega), disL]

set_option maxHeartbeats 8000000 in
set_option maxRecDepth 100000 in
theorem refDisj7_any (v u : Value) (a b : List Pc) (w : World) (h : Sl pcE w v a) (k : Sl pcE w u b) (ha : ∀ p, p ∈ a → p.wf) (hb : ∀ p, p ∈ b → p.wf) :
    Calls Try.prog 60 #[v, u] w fun e w' => e = .returned (.tuple #[.bool (disB a b), .int .i64 (prE a b)]) ∧ Below w.heap.size w w' := by
  have cC := fun w h k => checks7_any v u a b w h k ha hb
  have H := Lib.hid h; have HK := Lib.hid k
  by_cases h0 : prE a b = 0
  · obtain ⟨ea, eb, ei⟩ := prE_ok h0
    have va := ((errL_iff a).1 ea).2.1
    have vb := ((errL_iff b).1 eb).2.1
    have ia := ((errL_iff a).1 ea).2.2.1
    have ib := ((errL_iff b).1 eb).2.2.1
    obtain ⟨a1, a2, a3⟩ := formS_ok va
    obtain ⟨b1, b2, b3⟩ := formS_ok vb
    have hdis := dis_ref h0
    have cTa := fun w h => texts7_any v a w h ea
    have cTb := fun w h => texts7_any u b w h eb
    have cKa := fun w h => keeps7_any v a w h va ia
    have cKb := fun w h => keeps7_any u b w h vb ib
    have l1 := texts_len a1
    have l2 := texts_len b1
    have l3 := texts_len va
    have l4 := texts_len vb
    rw [a3] at l1
    rw [b3] at l2
    have hXY : (textsL (formS a)).length = (textsL (formS b)).length := by omega
    have hXK : (textsL (formS a)).length = (keepsL a).length + 1 := by omega
    have hKL : (keepsL a).length = (keepsL b).length := by omega
    have hX6 : (textsL (formS a)).length ≤ 1048577 := by omega
    rw [h0] at cC ⊢
    clear l1 l2 l3 l4 a1 a2 a3 b1 b2 b3 va vb ib ia ea eb ei h0 ha hb
    generalize disB a b = D at *
    generalize textsL (formS a) = X at *
    generalize textsL (formS b) = Y at *
    generalize keepsL a = K at *
    generalize keepsL b = L at *
    have CC := Lib.hid cC; have CTA := Lib.hid cTa; have CTB := Lib.hid cTb; have CKA := Lib.hid cKa; have CKB := Lib.hid cKb; have HD := Lib.hid hdis; have HXY := Lib.hid hXY; have HXK := Lib.hid hXK; have HKL := Lib.hid hKL
    clear hXY hXK hKL h k cC cTa cTb cKa cKb hdis
    go_enter Try.func60, Try.ntmps60
    go_wp2_with fail
    refine (CC.out _ H.out HK.out).mono ?_
    rintro e w0 ⟨rfl, hb⟩
    have H0 := Lib.hid (H.out.ext hb); have K0 := Lib.hid (HK.out.ext hb); have B0 := Lib.hid hb
    clear hb H HK CC
    go_wp2_with fail
    refine (CTA.out _ H0.out).mono ?_
    rintro e w1 ⟨vx, rfl, hs, hb⟩
    have SX := Lib.hid hs; have H1 := Lib.hid (H0.out.ext hb); have K1 := Lib.hid (K0.out.ext hb); have B1 := Lib.hid (B0.out.trans (hb.mono B0.out.size))
    clear hs hb H0 K0 B0 CTA
    go_wp2_with fail
    refine (CTB.out _ K1.out).mono ?_
    rintro e w2 ⟨vy, rfl, hs, hb⟩
    have SY := Lib.hid hs; have H2 := Lib.hid (H1.out.ext hb); have K2 := Lib.hid (K1.out.ext hb); have SX2 := Lib.hid (SX.out.ext hb); have B2 := Lib.hid (B1.out.trans (hb.mono B1.out.size))
    clear hs hb H1 K1 SX B1 CTB
    go_wp2_with fail
    refine (CKA.out _ H2.out).mono ?_
    rintro e w3 ⟨vk, rfl, hs, hb⟩
    have SK := Lib.hid (Sl.of_own hs); have K3 := Lib.hid (K2.out.ext hb); have SX3 := Lib.hid (SX2.out.ext hb); have SY3 := Lib.hid (SY.out.ext hb); have B3 := Lib.hid (B2.out.trans (hb.mono B2.out.size))
    clear hs hb H2 K2 SX2 SY B2 CKA
    go_wp2_with fail
    refine (CKB.out _ K3.out).mono ?_
    rintro e w4 ⟨vl, rfl, hs, hb⟩
    have SL := Lib.hid (Sl.of_own hs); have SK4 := Lib.hid (SK.out.ext hb); have SX4 := Lib.hid (SX3.out.ext hb); have SY4 := Lib.hid (SY3.out.ext hb); have B4 := Lib.hid (B3.out.trans (hb.mono B3.out.size))
    clear hs hb K3 SX3 SY3 SK B3 CKB
    have SK := Lib.hid SK4.out
    clear SK4
    obtain ⟨AX, cX, hvx, -, -, -⟩ := id SX4.out
    subst hvx
    obtain ⟨AY, cY, hvy, -, -, -⟩ := id SY4.out
    subst hvy
    obtain ⟨AK, cK, hvk, -, -, -⟩ := id SK.out
    subst hvk
    obtain ⟨AL, cL, hvl, -, -, -⟩ := id SL.out
    subst hvl
    have L4 := B4.out.size
    go_wp2_with fail
    go_loopw [11] (fun i wr => ∃ k : Nat, k ≤ X.length ∧ i = .int .i64 k ∧ Hid (disL (X.drop k) (Y.drop k) (K.drop k) (L.drop k) = D) ∧ Hid (Below w4.heap.size w4 wr)) (fun i _ => X.length - (intOf i).toNat)
    case atStart => exact ⟨0, by omega, rfl, Lib.hid HD.out.symm, Lib.hid (Below.refl _ _)⟩
    case round =>
      obtain ⟨k, hk, rfl, hT, hB⟩ := hrel
      have hsz := hB.out.size
      by_cases hlt : k < X.length
      · have hlty : k < Y.length := by have := HXY.out; omega
        obtain ⟨bx, ox, capx, hvx', hbx, hcx⟩ := SX4.out.str7 hlt
        obtain ⟨rfl, rfl⟩ : AX = some ⟨bx, ox, none⟩ ∧ cX = capx := by injection hvx' with e1 e2 e3; exact ⟨e1, e3⟩
        obtain ⟨by_, oy, capy, hvy', hby, hcy⟩ := SY4.out.str7 hlty
        obtain ⟨rfl, rfl⟩ : AY = some ⟨by_, oy, none⟩ ∧ cY = capy := by injection hvy' with e1 e2 e3; exact ⟨e1, e3⟩
        have hT' := hT.out
        rw [disL_at X Y K L k hlt hlty] at hT'
        have cx := hcx _ hB.out
        have cy := hcy _ hB.out
        have lx := Nat.lt_of_lt_of_le hbx hsz
        have ly := Nat.lt_of_lt_of_le hby hsz
        have hxi : (k : Int) < (X.length : Int) := by omega
        have hyi : (k : Int) < (Y.length : Int) := by omega
        clear hcx hcy hvx' hvy'
        generalize X[k] = t at *
        generalize Y[k] = s at *
        cases t with
        | nil =>
          by_cases hkl : k < K.length
          · obtain ⟨bk, ok, capk, hvk, hbk, hck⟩ := SK.out.bool7 hkl
            obtain ⟨rfl, rfl⟩ : AK = some ⟨bk, ok, none⟩ ∧ cK = capk := by injection hvk with e1 e2 e3; exact ⟨e1, e3⟩
            have hK : (K.drop k).headD true = K[k] := by rw [List.drop_eq_getElem_cons hkl]; rfl
            have hll : k < L.length := by have := HKL.out; omega
            obtain ⟨bl, ol, capl, hvl, hbl, hcl⟩ := SL.out.bool7 hll
            obtain ⟨rfl, rfl⟩ : AL = some ⟨bl, ol, none⟩ ∧ cL = capl := by injection hvl with e1 e2 e3; exact ⟨e1, e3⟩
            have hL : (L.drop k).headD true = L[k] := by rw [List.drop_eq_getElem_cons hll]; rfl
            have ck := hck _ hB.out
            have cl := hcl _ hB.out
            have lk := Nat.lt_of_lt_of_le hbk hsz
            have ll := Nat.lt_of_lt_of_le hbl hsz
            have hki : (k : Int) < (K.length : Int) := by omega
            have hli : (k : Int) < (L.length : Int) := by omega
            rw [hK, hL] at hT'
            clear hck hcl hvk hvl hK hL
            generalize K[k] = kk at *
            generalize L[k] = ll' at *
            cases kk with
            | false =>
              cases ll' with
              | false =>
                have hD : D = false := by rw [← hT']; simp
                subst hD
                clear hT' hT
                go_wp2
                go_ret2
                exact ⟨rfl, B4.out.trans (hB.out.mono B4.out.size)⟩
              | true =>
                have HT' := Lib.hid (show disL (X.drop (k + 1)) (Y.drop (k + 1)) (K.drop (k + 1)) (L.drop (k + 1)) = D from by rw [← hT']; simp)
                clear hT' hT
                go_wp2_with fail
                go_roundw
                case rel => exact ⟨k + 1, by omega, by go_num, HT', hB⟩
                case measure => simp [intOf]; omega
            | true =>
              have HT' := Lib.hid (show disL (X.drop (k + 1)) (Y.drop (k + 1)) (K.drop (k + 1)) (L.drop (k + 1)) = D from by rw [← hT']; simp)
              clear hT' hT
              go_wp2_with fail
              go_roundw
              case rel => exact ⟨k + 1, by omega, by go_num, HT', hB⟩
              case measure => simp [intOf]; omega
          · have hK : (K.drop k).headD true = true := by rw [List.drop_eq_nil_iff.2 (by omega)]; rfl
            rw [hK] at hT'
            have HT' := Lib.hid (show disL (X.drop (k + 1)) (Y.drop (k + 1)) (K.drop (k + 1)) (L.drop (k + 1)) = D from by rw [← hT']; simp)
            have hki : ¬ (k : Int) < (K.length : Int) := by omega
            clear hT' hT hK
            go_wp2_with fail
            go_roundw
            case rel => exact ⟨k + 1, by omega, by go_num, HT', hB⟩
            case measure => simp [intOf]; omega
        | cons t0 t =>
          cases s with
          | nil =>
            by_cases hkl : k < K.length
            · obtain ⟨bk, ok, capk, hvk, hbk, hck⟩ := SK.out.bool7 hkl
              obtain ⟨rfl, rfl⟩ : AK = some ⟨bk, ok, none⟩ ∧ cK = capk := by injection hvk with e1 e2 e3; exact ⟨e1, e3⟩
              have hK : (K.drop k).headD true = K[k] := by rw [List.drop_eq_getElem_cons hkl]; rfl
              have hll : k < L.length := by have := HKL.out; omega
              obtain ⟨bl, ol, capl, hvl, hbl, hcl⟩ := SL.out.bool7 hll
              obtain ⟨rfl, rfl⟩ : AL = some ⟨bl, ol, none⟩ ∧ cL = capl := by injection hvl with e1 e2 e3; exact ⟨e1, e3⟩
              have hL : (L.drop k).headD true = L[k] := by rw [List.drop_eq_getElem_cons hll]; rfl
              have ck := hck _ hB.out
              have cl := hcl _ hB.out
              have lk := Nat.lt_of_lt_of_le hbk hsz
              have ll := Nat.lt_of_lt_of_le hbl hsz
              have hki : (k : Int) < (K.length : Int) := by omega
              have hli : (k : Int) < (L.length : Int) := by omega
              rw [hK, hL] at hT'
              clear hck hcl hvk hvl hK hL
              generalize K[k] = kk at *
              generalize L[k] = ll' at *
              cases kk with
              | false =>
                cases ll' with
                | false =>
                  have hD : D = false := by rw [← hT']; simp
                  subst hD
                  clear hT' hT
                  go_wp2
                  go_ret2
                  exact ⟨rfl, B4.out.trans (hB.out.mono B4.out.size)⟩
                | true =>
                  have HT' := Lib.hid (show disL (X.drop (k + 1)) (Y.drop (k + 1)) (K.drop (k + 1)) (L.drop (k + 1)) = D from by rw [← hT']; simp)
                  clear hT' hT
                  go_wp2_with fail
                  go_roundw
                  case rel => exact ⟨k + 1, by omega, by go_num, HT', hB⟩
                  case measure => simp [intOf]; omega
              | true =>
                have HT' := Lib.hid (show disL (X.drop (k + 1)) (Y.drop (k + 1)) (K.drop (k + 1)) (L.drop (k + 1)) = D from by rw [← hT']; simp)
                clear hT' hT
                go_wp2_with fail
                go_roundw
                case rel => exact ⟨k + 1, by omega, by go_num, HT', hB⟩
                case measure => simp [intOf]; omega
            · have hK : (K.drop k).headD true = true := by rw [List.drop_eq_nil_iff.2 (by omega)]; rfl
              rw [hK] at hT'
              have HT' := Lib.hid (show disL (X.drop (k + 1)) (Y.drop (k + 1)) (K.drop (k + 1)) (L.drop (k + 1)) = D from by rw [← hT']; simp)
              have hki : ¬ (k : Int) < (K.length : Int) := by omega
              clear hT' hT hK
              go_wp2_with fail
              go_roundw
              case rel => exact ⟨k + 1, by omega, by go_num, HT', hB⟩
              case measure => simp [intOf]; omega
          | cons s0 s =>
            have hD : D = false := by rw [← hT']; simp
            subst hD
            clear hT' hT
            go_wp2
            go_ret2
            exact ⟨rfl, B4.out.trans (hB.out.mono B4.out.size)⟩
      · have hD : D = true := by rw [← hT.out, disL_end X Y K L k hlt]
        subst hD
        clear hT
        go_wp2
        go_ret2
        exact ⟨rfl, B4.out.trans (hB.out.mono B4.out.size)⟩
  · have hne : (prE a b != 0) = true := by simpa using h0
    have hD : disB a b = false := by rw [disB, if_neg h0]
    rw [hD]
    generalize prE a b = E at *
    have CC := Lib.hid cC
    clear cC h0 h k ha hb hD
    go_enter Try.func60, Try.ntmps60
    go_wp2_with fail
    refine (CC.out _ H.out HK.out).mono ?_
    rintro e w1 ⟨rfl, hb1⟩
    have B1 := Lib.hid hb1
    clear hb1 CC H HK
    go_wp2
    go_ret2
    exact ⟨rfl, B1.out⟩

end Go.Proofs.Ytdlbjfgpfjcpaaa
