/- quartoref07.Against: the merged result. Condition: two valid deltas for one string. -/
import Derived.Test.YtdlbjfgpfjcpaaaRef7b
namespace Go.Proofs.Ytdlbjfgpfjcpaaa
open Go.RowKit

/-- what is read, and what is written -/
structure AG (w4 : World) (X Y : List (List UInt8)) (K L : List Bool) (vx vy vk vl : Value) (R : List Int) (A : Option Addr) (c : Nat) (w : World) : Prop where
  o : w.ownsRow w4.heap.size 3 1 (.slice A R.length c) R.length (inE.flat R)
  b : Below w4.heap.size w4 w
theorem AG.grow {w4 : World} {X Y : List (List UInt8)} {K L : List Bool} {vx vy vk vl : Value} {R : List Int} {A : Option Addr} {c : Nat} {w w8 : World} (h : AG w4 X Y K L vx vy vk vl R A c w) {o : Obj} {R' : List Int} {A' : Option Addr} {c' : Nat}
    (ho : w8.ownsRow w4.heap.size 3 1 (.slice A' R'.length c') R'.length (inE.flat R')) (hg : (w.alloc o).grownBy w8 (Value.slice A R.length c).ownBlock) : AG w4 X Y K L vx vy vk vl R' A' c' w8 :=
  ⟨ho, (h.b.alloc h.b.size _).grown hg (by have := h.b.size; simp; omega) (fun g hg => (h.o.lt g hg).1)⟩


set_option maxHeartbeats 4000000 in
set_option maxRecDepth 100000 in
theorem against7_any (v u : Value) (a b : List Pc) (f : Bool) (w : World) (h : Sl pcE w v a) (k : Sl pcE w u b) (h0 : errL a = 0) (h1 : errL b = 0) (hi : inL a = inL b) (hb : outL a + iN b ≤ 49000) :
    Calls Try.prog 84 #[v, u, .bool f] w fun e w' => ∃ v', e = .returned v' ∧ w'.ownsRow w.heap.size 31 3 v' (formS (trS f a b)).length (pcE.flat (formS (trS f a b))) ∧ Below w.heap.size w w' := by
  obtain ⟨j0, hj, jz0, jz1, jz2⟩ := info_parts infoInt
  have va := ((errL_iff a).1 h0).2.1
  have vb := ((errL_iff b).1 h1).2.1
  have ia := ((errL_iff a).1 h0).2.2.1
  have oa := ((errL_iff a).1 h0).2.2.2
  have ib := ((errL_iff b).1 h1).2.2.1
  obtain ⟨a1, a2, a3⟩ := formS_ok va
  obtain ⟨b1, b2, b3⟩ := formS_ok vb
  have r := trS_rel f h0 h1 hi
  obtain ⟨s1, s2, s3⟩ := trS_ok f h0 h1 hi
  have cO := fun x w h => of_any (outL a) x (atoms 0 (trS f a b)) w h (by have := s1.val.rising (Int.le_refl 0); rw [s3, Int.zero_add] at this; exact this) (by
    have e1 := Val.atoms_len s1.val 0
    have e2 := r.outB.1
    rw [outL_formS va, (kN_form vb).2.1] at e2
    omega) oa
  rw [← s3, ← formS_ofS s1.val] at cO
  have hTlen : (atoms 0 (trS f a b)).length ≤ 49000 := by
    have e1 := Val.atoms_len s1.val 0
    have e2 := r.outB.1
    rw [outL_formS va, (kN_form vb).2.1] at e2
    omega
  have hag := r.ag a1 b1 0
  rw [keeps_form va, keeps_form vb] at hag
  have hzz := szX_all a1
  rw [keeps_form va, outL_formS va] at hzz
  have cTa := fun w h => texts7_any v a w h h0
  have cTb := fun w h => texts7_any u b w h h1
  have cKa := fun w h => keeps7_any v a w h va ia
  have cKb := fun w h => keeps7_any u b w h vb ib
  have l1 := texts_len a1
  have l2 := texts_len b1
  have l3 := texts_len va
  have l4 := texts_len vb
  rw [a3] at l1
  rw [b3] at l2
  have hXY : (textsL (formS a)).length = (textsL (formS b)).length := by omega
  have hXK : (textsL (formS a)).length = (keepsL a).length + 1 := by omega
  have hKL : (keepsL a).length = (keepsL b).length := by omega
  have hX6 : (textsL (formS a)).length ≤ 1048577 := by omega
  rw [s3] at cO
  clear l1 l2 l3 l4 a1 a2 a3 b1 b2 b3 s1 s2 s3 r va vb ib ia h0 h1 hi hb
  generalize formS (trS f a b) = F at *
  generalize atoms 0 (trS f a b) = T at *
  generalize textsL (formS a) = X at *
  generalize textsL (formS b) = Y at *
  generalize keepsL a = K at *
  generalize keepsL b = L at *
  generalize outL a = OA at *
  have H := Lib.hid h; have HK := Lib.hid k; have CO := Lib.hid cO; have CTA := Lib.hid cTa; have CTB := Lib.hid cTb; have CKA := Lib.hid cKa; have CKB := Lib.hid cKb; have HAG := Lib.hid hag; have HZZ := Lib.hid hzz; have HXY := Lib.hid hXY; have HKL := Lib.hid hKL
  clear hXY hXK hKL h k cO cTa cTb cKa cKb hag hzz
  go_enter Try.func84, Try.ntmps84
  go_wp2_with fail
  refine (CTA.out _ H.out).mono ?_
  rintro e w1 ⟨vx, rfl, hs, hb⟩
  have SX := Lib.hid hs; have H1 := Lib.hid (H.out.ext hb); have K1 := Lib.hid (HK.out.ext hb); have B1 := Lib.hid hb
  clear hs hb H HK CTA
  go_wp2_with fail
  refine (CTB.out _ K1.out).mono ?_
  rintro e w2 ⟨vy, rfl, hs, hb⟩
  have SY := Lib.hid hs; have H2 := Lib.hid (H1.out.ext hb); have K2 := Lib.hid (K1.out.ext hb); have SX2 := Lib.hid (SX.out.ext hb); have B2 := Lib.hid (B1.out.trans (hb.mono B1.out.size))
  clear hs hb H1 K1 SX B1 CTB
  go_wp2_with fail
  refine (CKA.out _ H2.out).mono ?_
  rintro e w3 ⟨vk, rfl, hs, hb⟩
  have SK := Lib.hid (Sl.of_own hs); have K3 := Lib.hid (K2.out.ext hb); have SX3 := Lib.hid (SX2.out.ext hb); have SY3 := Lib.hid (SY.out.ext hb); have B3 := Lib.hid (B2.out.trans (hb.mono B2.out.size))
  clear hs hb H2 K2 SX2 SY B2 CKA
  go_wp2_with fail
  refine (CKB.out _ K3.out).mono ?_
  rintro e w4 ⟨vl, rfl, hs, hb⟩
  have SL := Lib.hid (Sl.of_own hs); have SK4 := Lib.hid (SK.out.ext hb); have SX4 := Lib.hid (SX3.out.ext hb); have SY4 := Lib.hid (SY3.out.ext hb); have B4 := Lib.hid (B3.out.trans (hb.mono B3.out.size))
  clear hs hb K3 SX3 SY3 SK B3 CKB
  have SK := Lib.hid SK4.out
  clear SK4
  obtain ⟨AX, cX, hvx, -, -, -⟩ := id SX4.out
  have L4 := B4.out.size
  have HC0 := Lib.hid (show AG w4 X Y K L vx vy vk vl [] none 0 w4 from ⟨World.ownsRow_nil _ _ _ _, Below.refl _ _⟩)

  cases f with
  | true =>
    go_wp2_with fail
    subst hvx
    go_wp2_with fail
    go_loopw [11, 12, 13] (fun vo a i wr => ∃ (k c0 : Nat) (R : List Int) (A5 : Option Addr) (c5 : Nat), k ≤ X.length ∧ i = .int .i64 k ∧ a = .int .i64 c0 ∧ vo = .slice A5 R.length c5 ∧ R.length ≤ 49000 ∧ c0 ≤ 1048576 ∧ Hid (R ++ agL true c0 (X.drop k) (Y.drop k) (K.drop k) (L.drop k) = T) ∧ Hid ((c0 : Int) + szX (X.drop k) (K.drop k) = OA) ∧ Hid (AG w4 X Y K L (.slice AX X.length cX) vy vk vl R A5 c5 wr)) (fun _ _ i _ => X.length - (intOf i).toNat)
    case atStart => exact ⟨0, 0, [], none, 0, by omega, rfl, rfl, rfl, by simp, by omega, Lib.hid (by rw [HAG.out]; rfl), Lib.hid (by rw [← HZZ.out]; simp), HC0⟩
    case round =>
      obtain ⟨k, c0, R, A5, c5, hk, rfl, rfl, rfl, hR, hc0, hT, hZ, C5⟩ := hrel
      have hsz := C5.out.b.size
      by_cases hlt : k < X.length
      · have hlty : k < Y.length := by have := HXY.out; omega
        obtain ⟨bx, ox, capx, hvx', hbx, hcx⟩ := SX4.out.str7 hlt
        obtain ⟨rfl, rfl⟩ : AX = some ⟨bx, ox, none⟩ ∧ cX = capx := by injection hvx' with e1 e2 e3; exact ⟨e1, e3⟩
        obtain ⟨by_, oy, capy, hvy, hby, hcy⟩ := SY4.out.str7 hlty
        subst hvy
        have hT' := hT.out
        rw [agL_at true c0 X Y K L k hlt hlty] at hT'
        have hZ' := hZ.out
        rw [szX_at X K k hlt] at hZ'
        have hgeZ := szX_ge (X.drop (k + 1)) (K.drop (k + 1))
        have hTl := congrArg List.length hT'
        have hxi : (k : Int) < (X.length : Int) := by omega
        have hyi : (k : Int) < (Y.length : Int) := by omega
        simp only [List.length_append] at hTl
        have hol : (ordA true c0 X[k] Y[k]).length = X[k].length + Y[k].length := by unfold ordA; split <;> simp [rng_len, lets_len] <;> omega
        have hlenT : R.length + X[k].length + Y[k].length ≤ 49000 := by omega
        have hcT : c0 + X[k].length + 1 ≤ 1048577 := by
          have : (0 : Int) ≤ (if K.getD k false = true then 1 else 0) := by split <;> omega
          omega
        have hcT2 : K.getD k false = true → c0 + X[k].length + 1 ≤ 1048576 := fun hh => by
          rw [if_pos hh] at hZ'
          omega
        clear hT hZ hTl hol hgeZ hvx'
        generalize X[k] = t at *
        generalize Y[k] = s at *
        generalize agL true = AGL at *
        generalize szX = SZ at *
        go_wp2_with fail
        go_loopw [11, 12, 14] (fun vo a i wz => ∃ (j : Nat) (R2 : List Int) (A6 : Option Addr) (c6 : Nat), j ≤ t.length ∧ i = .int .i64 j ∧ a = .int .i64 ((c0 + j : Nat) : Int) ∧ vo = .slice A6 R2.length c6 ∧ R2.length = R.length + j ∧ Hid (R ++ rng c0 j = R2) ∧ Hid (AG w4 X Y K L (.slice (some ⟨bx, ox, none⟩) X.length cX) (.slice (some ⟨by_, oy, none⟩) Y.length capy) vk vl R2 A6 c6 wz)) (fun _ _ i _ => t.length - (intOf i).toNat)
        case atStart => exact ⟨0, R, A5, c5, by omega, rfl, rfl, rfl, by omega, Lib.hid (by simp [rng_zero]), C5⟩
        case round =>
          obtain ⟨j, R2, A6, c6, hj6, rfl, rfl, rfl, hlen2, hR2, C6⟩ := hrel
          have hR2b : R2.length ≤ 49000 := by omega
          have Hlen2 := Lib.hid hlen2
          have hsz6 := C6.out.b.size
          have cx6 := hcx _ C6.out.b
          have lx6 := Nat.lt_of_lt_of_le hbx hsz6
          have cy6 := hcy _ C6.out.b
          have ly6 := Nat.lt_of_lt_of_le hby hsz6
          by_cases hjl : j < t.length
          · have hR2c : R2.length < 49000 := by omega
            clear hlen2
            have hw6 : IntKind.i64.wrap (((c0 + j : Nat) : Int) + 1) = ((c0 + (j + 1) : Nat) : Int) := by rw [IntWalk.i64_in _ (by omega)]; omega
            go_wp2_with (at_builtin; refine Hid.out ?_)
            refine Lib.hid ?_
            refine wpListB_append _ rfl (.tmp 46) (.tmp 48) 50 50 rfl w4.heap.size (by have := C6.out.b.size; simp; omega) 3 j0 _ 1 8 Try.underlying50 hj jz0 jz1 jz2 rfl (by decide) _ _ _ rfl (C6.out.o.alloc _) _ 1 _ rfl (src_one inE Try.underlying50 (off := 0) (((c0 + j : Nat) : Int)) _ (new_cells _ _ _)) (by unfold maxLen; omega) (by omega) ?_
            intro A8 c8 w8 hown8 hg8 _ _
            have C8 := Lib.hid (AG.grow (R' := R2 ++ [((c0 + j : Nat) : Int)]) (A' := A8) (c' := c8) C6.out (by rw [List.length_append, inE.flat_append]; exact hown8) hg8)
            clear hown8 hg8
            go_wp2_with fail
            go_roundw
            case rel =>
              refine ⟨j + 1, R2 ++ [((c0 + j : Nat) : Int)], A8, c8, by omega, by go_num, by go_num, by simp, by have := Hlen2.out; simp; omega, Lib.hid ?_, C8⟩
              rw [rng_snoc, ← List.append_assoc, hR2.out]; rfl
            case measure => simp [intOf]; omega
          · obtain rfl : j = t.length := by omega
            have hR2d : R2.length ≤ R.length + t.length := by omega
            clear hlen2
            go_wp2_with fail
            refine (typed7_any s R2 A6 c6 w4.heap.size _ C6.out.o hsz6 (by omega)).mono ?_
            rintro e w7 ⟨A7, c7, rfl, ho7, hb7⟩
            have C7 := Lib.hid (show AG w4 X Y K L (.slice (some ⟨bx, ox, none⟩) X.length cX) (.slice (some ⟨by_, oy, none⟩) Y.length capy) vk vl (R2 ++ lets s) A7 c7 w7 from ⟨ho7, C6.out.b.trans hb7⟩)
            have hE7 := Lib.hid (show R ++ ordA true c0 t s = R2 ++ lets s from by rw [← hR2.out]; simp [ordA])
            have hl7 : (R2 ++ lets s).length = R2.length + s.length := by simp [lets_len]
            clear ho7 hb7 hR2 C6
            rw [← List.append_assoc, hE7.out] at hT'
            have hl7b : (R2 ++ lets s).length ≤ R.length + t.length + s.length := by omega
            clear hl7
            generalize R2 ++ lets s = R7 at *
            have HT7 := Lib.hid hT'; have HZ7 := Lib.hid hZ'; have HcT2 := Lib.hid hcT2
            clear hT' hZ' hcT2
            by_cases hkl : k < K.length
            · obtain ⟨bk, ok, capk, hvk, hbk, hck⟩ := SK.out.bool7 hkl
              subst hvk
              have hK : K.getD k false = K[k] := by simp [List.getD_eq_getElem?_getD, hkl]
              have hll : k < L.length := by have := HKL.out; omega
              obtain ⟨bl, ol, capl, hvl, hbl, hcl⟩ := SL.out.bool7 hll
              subst hvl
              have hL : L.getD k false = L[k] := by simp [List.getD_eq_getElem?_getD, hll]
              have ck := hck _ C7.out.b
              have cl := hcl _ C7.out.b
              have lk := Nat.lt_of_lt_of_le hbk C7.out.b.size
              have ll := Nat.lt_of_lt_of_le hbl C7.out.b.size
              have hki : (k : Int) < (K.length : Int) := by omega
              have hli : (k : Int) < (L.length : Int) := by omega
              clear hck hcl hbk hbl
              have hT' := HT7.out
              have hZ' := HZ7.out
              have hcT2 := HcT2.out
              rw [hK, hL] at hT'
              rw [hK] at hZ' hcT2
              clear hK hL HT7 HZ7 HcT2
              generalize K[k] = kk at *
              generalize L[k] = ll' at *
              cases kk with
              | true =>
                cases ll' with
                | true =>
                  simp only [if_true, and_self] at hT' hZ'
                  have hR71 : R7.length + 1 ≤ 49000 := by
                    have := congrArg List.length hT'
                    simp only [List.length_append, List.length_cons] at this
                    omega
                  have hcT3 := hcT2 rfl
                  clear hcT2
                  have HT' := Lib.hid hT'; have HZ' := Lib.hid hZ'
                  clear hT' hZ'
                  go_wp2_with (at_builtin; refine Hid.out ?_)
                  refine Lib.hid ?_
                  refine wpListB_append _ rfl (.tmp 73) (.tmp 75) 50 50 rfl w4.heap.size (by have := C7.out.b.size; simp; omega) 3 j0 _ 1 8 Try.underlying50 hj jz0 jz1 jz2 rfl (by decide) _ _ _ rfl (C7.out.o.alloc _) _ 1 _ rfl (src_one inE Try.underlying50 (off := 0) (((c0 + t.length : Nat) : Int)) _ (new_cells _ _ _)) (by unfold maxLen; omega) (by omega) ?_
                  intro A9 c9 w9 hown9 hg9 _ _
                  have C9 := Lib.hid (AG.grow (R' := R7 ++ [((c0 + t.length : Nat) : Int)]) (A' := A9) (c' := c9) C7.out (by rw [List.length_append, inE.flat_append]; exact hown9) hg9)
                  clear hown9 hg9
                  go_wp2_with fail
                  go_roundw
                  case rel =>
                    exact ⟨k + 1, c0 + t.length + 1, R7 ++ [((c0 + t.length : Nat) : Int)], A9, c9, by omega, by go_num, by go_num, by simp, by simp; omega, by omega, Lib.hid (by rw [← HT'.out]; simp), Lib.hid (by rw [← HZ'.out]; omega), C9⟩
                  case measure => simp [intOf]; omega
                | false =>
                  simp only [if_true, Bool.false_eq_true, and_false, if_false, List.nil_append] at hT' hZ'
                  have hcT3 := hcT2 rfl
                  clear hcT2
                  have HT' := Lib.hid hT'; have HZ' := Lib.hid hZ'
                  clear hT' hZ'
                  go_wp2_with fail
                  go_roundw
                  case rel =>
                    exact ⟨k + 1, c0 + t.length + 1, R7, A7, c7, by omega, by go_num, by go_num, by simp, by omega, by omega, Lib.hid (by rw [← HT'.out]; simp), Lib.hid (by rw [← HZ'.out]; omega), C7⟩
                  case measure => simp [intOf]; omega
              | false =>
                simp only [Bool.false_eq_true, false_and, if_false, List.nil_append, Int.add_zero] at hT' hZ'
                clear hcT2
                have HT' := Lib.hid hT'; have HZ' := Lib.hid hZ'
                clear hT' hZ'
                go_wp2_with fail
                go_roundw
                case rel =>
                  exact ⟨k + 1, c0 + t.length, R7, A7, c7, by omega, by go_num, by simp, by simp, by omega, by omega, Lib.hid (by rw [← HT'.out]; simp), Lib.hid (by rw [← HZ'.out]; omega), C7⟩
                case measure => simp [intOf]; omega
            · have hK : K.getD k false = false := by simp [List.getD_eq_getElem?_getD, List.getElem?_eq_none (Nat.le_of_not_lt hkl)]
              have hki : ¬ (k : Int) < (K.length : Int) := by omega
              have hT' := HT7.out
              have hZ' := HZ7.out
              rw [hK] at hT' hZ'
              clear HT7 HZ7 HcT2
              simp only [Bool.false_eq_true, false_and, if_false, List.nil_append, Int.add_zero] at hT' hZ'
              have HT' := Lib.hid hT'; have HZ' := Lib.hid hZ'
              clear hT' hZ' hK
              obtain ⟨Ak, capk, hvk, -, -, -⟩ := id SK.out
              subst hvk
              go_wp2_with fail
              go_roundw
              case rel =>
                exact ⟨k + 1, c0 + t.length, R7, A7, c7, by omega, by go_num, by simp, by simp, by omega, by omega, Lib.hid (by rw [← HT'.out]; simp), Lib.hid (by rw [← HZ'.out]; omega), C7⟩
              case measure => simp [intOf]; omega
      · have hT' := hT.out
        rw [agL_end true c0 X Y K L k hlt, List.append_nil] at hT'
        have hZ' := hZ.out
        rw [List.drop_eq_nil_iff.2 (by omega), szX, Int.add_zero] at hZ'
        subst hT'
        have SO := Lib.hid (Sl.of_own C5.out.o)
        have HZ := Lib.hid hZ'
        have BO := Lib.hid (B4.out.trans (C5.out.b.mono L4))
        clear hT hZ C5 hZ'
        rw [← HZ.out] at CO
        go_wp2_with fail
        refine (CO.out _ _ SO.out).mono ?_
        rintro e wo ⟨vo, rfl, ho, hbo⟩
        have HO := Lib.hid (own_base (own_zero ho) (fun g hg => Nat.le_trans BO.out.size (ho.lt g hg).1))
        have HB := Lib.hid (BO.out.trans (hbo.mono BO.out.size))
        clear ho hbo
        go_wp2
        go_ret
        exact ⟨vo, rfl, HO.out, HB.out⟩
  | false =>
    go_wp2_with fail
    subst hvx
    go_wp2_with fail
    go_loopw [11, 12, 13] (fun vo a i wr => ∃ (k c0 : Nat) (R : List Int) (A5 : Option Addr) (c5 : Nat), k ≤ X.length ∧ i = .int .i64 k ∧ a = .int .i64 c0 ∧ vo = .slice A5 R.length c5 ∧ R.length ≤ 49000 ∧ c0 ≤ 1048576 ∧ Hid (R ++ agL false c0 (X.drop k) (Y.drop k) (K.drop k) (L.drop k) = T) ∧ Hid ((c0 : Int) + szX (X.drop k) (K.drop k) = OA) ∧ Hid (AG w4 X Y K L (.slice AX X.length cX) vy vk vl R A5 c5 wr)) (fun _ _ i _ => X.length - (intOf i).toNat)
    case atStart => exact ⟨0, 0, [], none, 0, by omega, rfl, rfl, rfl, by simp, by omega, Lib.hid (by rw [HAG.out]; rfl), Lib.hid (by rw [← HZZ.out]; simp), HC0⟩
    case round =>
      obtain ⟨k, c0, R, A5, c5, hk, rfl, rfl, rfl, hR, hc0, hT, hZ, C5⟩ := hrel
      have hsz := C5.out.b.size
      by_cases hlt : k < X.length
      · have hlty : k < Y.length := by have := HXY.out; omega
        obtain ⟨bx, ox, capx, hvx', hbx, hcx⟩ := SX4.out.str7 hlt
        obtain ⟨rfl, rfl⟩ : AX = some ⟨bx, ox, none⟩ ∧ cX = capx := by injection hvx' with e1 e2 e3; exact ⟨e1, e3⟩
        obtain ⟨by_, oy, capy, hvy, hby, hcy⟩ := SY4.out.str7 hlty
        subst hvy
        have hT' := hT.out
        rw [agL_at false c0 X Y K L k hlt hlty] at hT'
        have hZ' := hZ.out
        rw [szX_at X K k hlt] at hZ'
        have hgeZ := szX_ge (X.drop (k + 1)) (K.drop (k + 1))
        have hTl := congrArg List.length hT'
        have hxi : (k : Int) < (X.length : Int) := by omega
        have hyi : (k : Int) < (Y.length : Int) := by omega
        simp only [List.length_append] at hTl
        have hol : (ordA false c0 X[k] Y[k]).length = X[k].length + Y[k].length := by unfold ordA; split <;> simp [rng_len, lets_len] <;> omega
        have hlenT : R.length + X[k].length + Y[k].length ≤ 49000 := by omega
        have hcT : c0 + X[k].length + 1 ≤ 1048577 := by
          have : (0 : Int) ≤ (if K.getD k false = true then 1 else 0) := by split <;> omega
          omega
        have hcT2 : K.getD k false = true → c0 + X[k].length + 1 ≤ 1048576 := fun hh => by
          rw [if_pos hh] at hZ'
          omega
        clear hT hZ hTl hol hgeZ hvx'
        generalize X[k] = t at *
        generalize Y[k] = s at *
        generalize agL false = AGL at *
        generalize szX = SZ at *
        have cy5 := hcy _ C5.out.b
        have ly5 := Nat.lt_of_lt_of_le hby hsz
        go_wp2_with fail
        refine (typed7_any s R A5 c5 w4.heap.size _ C5.out.o hsz (by omega)).mono ?_
        rintro e w7 ⟨A7, c7, rfl, ho7, hb7⟩
        have C7 := Lib.hid (show AG w4 X Y K L (.slice (some ⟨bx, ox, none⟩) X.length cX) (.slice (some ⟨by_, oy, none⟩) Y.length capy) vk vl (R ++ lets s) A7 c7 w7 from ⟨ho7, C5.out.b.trans hb7⟩)
        have hl7 : (R ++ lets s).length ≤ R.length + s.length := by simp [lets_len]
        clear ho7 hb7 C5 cy5 ly5
        have hE7 : R ++ ordA false c0 t s = (R ++ lets s) ++ rng c0 t.length := by simp [ordA]
        rw [← List.append_assoc, hE7] at hT'
        clear hE7
        generalize R ++ lets s = R7 at *
        go_wp2_with fail
        go_loopw [11, 12, 14] (fun vo a i wz => ∃ (j : Nat) (R2 : List Int) (A6 : Option Addr) (c6 : Nat), j ≤ t.length ∧ i = .int .i64 j ∧ a = .int .i64 ((c0 + j : Nat) : Int) ∧ vo = .slice A6 R2.length c6 ∧ R2.length = R7.length + j ∧ Hid (R7 ++ rng c0 j = R2) ∧ Hid (AG w4 X Y K L (.slice (some ⟨bx, ox, none⟩) X.length cX) (.slice (some ⟨by_, oy, none⟩) Y.length capy) vk vl R2 A6 c6 wz)) (fun _ _ i _ => t.length - (intOf i).toNat)
        case atStart => exact ⟨0, R7, A7, c7, by omega, rfl, rfl, rfl, by omega, Lib.hid (by simp [rng_zero]), C7⟩
        case round =>
          obtain ⟨j, R2, A6, c6, hj6, rfl, rfl, rfl, hlen2, hR2, C6⟩ := hrel
          have hR2b : R2.length ≤ 49000 := by omega
          have Hlen2 := Lib.hid hlen2
          have hsz6 := C6.out.b.size
          have cx6 := hcx _ C6.out.b
          have lx6 := Nat.lt_of_lt_of_le hbx hsz6
          have cy6 := hcy _ C6.out.b
          have ly6 := Nat.lt_of_lt_of_le hby hsz6
          by_cases hjl : j < t.length
          · have hR2c : R2.length < 49000 := by omega
            clear hlen2
            have hw6 : IntKind.i64.wrap (((c0 + j : Nat) : Int) + 1) = ((c0 + (j + 1) : Nat) : Int) := by rw [IntWalk.i64_in _ (by omega)]; omega
            go_wp2_with (at_builtin; refine Hid.out ?_)
            refine Lib.hid ?_
            refine wpListB_append _ rfl (.tmp 46) (.tmp 48) 50 50 rfl w4.heap.size (by have := C6.out.b.size; simp; omega) 3 j0 _ 1 8 Try.underlying50 hj jz0 jz1 jz2 rfl (by decide) _ _ _ rfl (C6.out.o.alloc _) _ 1 _ rfl (src_one inE Try.underlying50 (off := 0) (((c0 + j : Nat) : Int)) _ (new_cells _ _ _)) (by unfold maxLen; omega) (by omega) ?_
            intro A8 c8 w8 hown8 hg8 _ _
            have C8 := Lib.hid (AG.grow (R' := R2 ++ [((c0 + j : Nat) : Int)]) (A' := A8) (c' := c8) C6.out (by rw [List.length_append, inE.flat_append]; exact hown8) hg8)
            clear hown8 hg8
            go_wp2_with fail
            go_roundw
            case rel =>
              refine ⟨j + 1, R2 ++ [((c0 + j : Nat) : Int)], A8, c8, by omega, by go_num, by go_num, by simp, by have := Hlen2.out; simp; omega, Lib.hid ?_, C8⟩
              rw [rng_snoc, ← List.append_assoc, hR2.out]; rfl
            case measure => simp [intOf]; omega
          · obtain rfl : j = t.length := by omega
            have hR2d : R2.length ≤ R7.length + t.length := by omega
            clear hlen2
            rw [hR2.out] at hT'
            clear hR2
            have HT7 := Lib.hid hT'; have HZ7 := Lib.hid hZ'; have HcT2 := Lib.hid hcT2
            clear hT' hZ' hcT2
            by_cases hkl : k < K.length
            · obtain ⟨bk, ok, capk, hvk, hbk, hck⟩ := SK.out.bool7 hkl
              subst hvk
              have hK : K.getD k false = K[k] := by simp [List.getD_eq_getElem?_getD, hkl]
              have hll : k < L.length := by have := HKL.out; omega
              obtain ⟨bl, ol, capl, hvl, hbl, hcl⟩ := SL.out.bool7 hll
              subst hvl
              have hL : L.getD k false = L[k] := by simp [List.getD_eq_getElem?_getD, hll]
              have ck := hck _ C6.out.b
              have cl := hcl _ C6.out.b
              have lk := Nat.lt_of_lt_of_le hbk C6.out.b.size
              have ll := Nat.lt_of_lt_of_le hbl C6.out.b.size
              have hki : (k : Int) < (K.length : Int) := by omega
              have hli : (k : Int) < (L.length : Int) := by omega
              clear hck hcl hbk hbl
              have hT' := HT7.out
              have hZ' := HZ7.out
              have hcT2 := HcT2.out
              rw [hK, hL] at hT'
              rw [hK] at hZ' hcT2
              clear hK hL HT7 HZ7 HcT2
              generalize K[k] = kk at *
              generalize L[k] = ll' at *
              cases kk with
              | true =>
                cases ll' with
                | true =>
                  simp only [if_true, and_self] at hT' hZ'
                  have hR71 : R2.length + 1 ≤ 49000 := by
                    have := congrArg List.length hT'
                    simp only [List.length_append, List.length_cons] at this
                    omega
                  have hcT3 := hcT2 rfl
                  clear hcT2
                  have HT' := Lib.hid hT'; have HZ' := Lib.hid hZ'
                  clear hT' hZ'
                  go_wp2_with (at_builtin; refine Hid.out ?_)
                  refine Lib.hid ?_
                  refine wpListB_append _ rfl (.tmp 73) (.tmp 75) 50 50 rfl w4.heap.size (by have := C6.out.b.size; simp; omega) 3 j0 _ 1 8 Try.underlying50 hj jz0 jz1 jz2 rfl (by decide) _ _ _ rfl (C6.out.o.alloc _) _ 1 _ rfl (src_one inE Try.underlying50 (off := 0) (((c0 + t.length : Nat) : Int)) _ (new_cells _ _ _)) (by unfold maxLen; omega) (by omega) ?_
                  intro A9 c9 w9 hown9 hg9 _ _
                  have C9 := Lib.hid (AG.grow (R' := R2 ++ [((c0 + t.length : Nat) : Int)]) (A' := A9) (c' := c9) C6.out (by rw [List.length_append, inE.flat_append]; exact hown9) hg9)
                  clear hown9 hg9
                  go_wp2_with fail
                  go_roundw
                  case rel =>
                    exact ⟨k + 1, c0 + t.length + 1, R2 ++ [((c0 + t.length : Nat) : Int)], A9, c9, by omega, by go_num, by go_num, by simp, by simp; omega, by omega, Lib.hid (by rw [← HT'.out]; simp), Lib.hid (by rw [← HZ'.out]; omega), C9⟩
                  case measure => simp [intOf]; omega
                | false =>
                  simp only [if_true, Bool.false_eq_true, and_false, if_false, List.nil_append] at hT' hZ'
                  have hcT3 := hcT2 rfl
                  clear hcT2
                  have HT' := Lib.hid hT'; have HZ' := Lib.hid hZ'
                  clear hT' hZ'
                  go_wp2_with fail
                  go_roundw
                  case rel =>
                    exact ⟨k + 1, c0 + t.length + 1, R2, A6, c6, by omega, by go_num, by go_num, by simp, by omega, by omega, Lib.hid (by rw [← HT'.out]; simp), Lib.hid (by rw [← HZ'.out]; omega), C6⟩
                  case measure => simp [intOf]; omega
              | false =>
                simp only [Bool.false_eq_true, false_and, if_false, List.nil_append, Int.add_zero] at hT' hZ'
                clear hcT2
                have HT' := Lib.hid hT'; have HZ' := Lib.hid hZ'
                clear hT' hZ'
                go_wp2_with fail
                go_roundw
                case rel =>
                  exact ⟨k + 1, c0 + t.length, R2, A6, c6, by omega, by go_num, by simp, by simp, by omega, by omega, Lib.hid (by rw [← HT'.out]; simp), Lib.hid (by rw [← HZ'.out]; omega), C6⟩
                case measure => simp [intOf]; omega
            · have hK : K.getD k false = false := by simp [List.getD_eq_getElem?_getD, List.getElem?_eq_none (Nat.le_of_not_lt hkl)]
              have hki : ¬ (k : Int) < (K.length : Int) := by omega
              have hT' := HT7.out
              have hZ' := HZ7.out
              rw [hK] at hT' hZ'
              clear HT7 HZ7 HcT2
              simp only [Bool.false_eq_true, false_and, if_false, List.nil_append, Int.add_zero] at hT' hZ'
              have HT' := Lib.hid hT'; have HZ' := Lib.hid hZ'
              clear hT' hZ' hK
              obtain ⟨Ak, capk, hvk, -, -, -⟩ := id SK.out
              subst hvk
              go_wp2_with fail
              go_roundw
              case rel =>
                exact ⟨k + 1, c0 + t.length, R2, A6, c6, by omega, by go_num, by simp, by simp, by omega, by omega, Lib.hid (by rw [← HT'.out]; simp), Lib.hid (by rw [← HZ'.out]; omega), C6⟩
              case measure => simp [intOf]; omega
      · have hT' := hT.out
        rw [agL_end false c0 X Y K L k hlt, List.append_nil] at hT'
        have hZ' := hZ.out
        rw [List.drop_eq_nil_iff.2 (by omega), szX, Int.add_zero] at hZ'
        subst hT'
        have SO := Lib.hid (Sl.of_own C5.out.o)
        have HZ := Lib.hid hZ'
        have BO := Lib.hid (B4.out.trans (C5.out.b.mono L4))
        clear hT hZ C5 hZ'
        rw [← HZ.out] at CO
        go_wp2_with fail
        refine (CO.out _ _ SO.out).mono ?_
        rintro e wo ⟨vo, rfl, ho, hbo⟩
        have HO := Lib.hid (own_base (own_zero ho) (fun g hg => Nat.le_trans BO.out.size (ho.lt g hg).1))
        have HB := Lib.hid (BO.out.trans (hbo.mono BO.out.size))
        clear ho hbo
        go_wp2
        go_ret
        exact ⟨vo, rfl, HO.out, HB.out⟩

end Go.Proofs.Ytdlbjfgpfjcpaaa
