/- plan.merge: the second plan is the higher one. -/
import Derived.Test.YtclmjnobacepjaaGreatTMerge2
namespace Go.Proofs.YtclmjnobacepjaaGreat
open Go.RowKit

theorem take_first {α : Type} {l : List α} {a : α} (h : l[0]? = some a) : l = [a] ++ l.drop 1 := by
  cases l with
  | nil => simp at h
  | cons x r => simp at h; subst h; rfl

set_option maxHeartbeats 2000000 in
set_option maxRecDepth 100000 in
theorem merge_right (A : AF) (G : Ar) (h hx : Nat) (hlt : hx ≤ h) (ih : MrgSays A G hx h) (cx cy : TC) (Ix Iy : PI) (w : World) (hA : ArM w A G) (qx : PV G FT w hx cx Ix) (qy : PV G FT w (h + 1) cy Iy) (hT : (Ix.T ++ Iy.T).length ≤ 65536) :
    Calls Tryz.prog 90 #[.pointer (some ⟨A.ba, 0, none⟩), cx.v, cy.v] w fun e w' => ∃ v l Is, e = .returned (.tuple #[v, .int .i64 0]) ∧ MrgV G w' (h + 1) Ix Iy v l Is ∧ Below w.heap.size w w' := by
  have hx0 := qx.cht
  have hy0 := qy.cht
  obtain ⟨tx, ty⟩ := catT_len hT
  have h13 := qy.ht_le hA.ok ty
  have hF := Lib.hid (fun v (l : List TC) (Is : List PI) W (q : Sl tcE W v l) (a : All2 (KV G FT W h) l Is) (b : 2 ≤ l.length) (d : l.length ≤ 5) => fold_any h (by omega) v l Is W q a b d)
  have cY := fun W (p : Below w.heap.size w W) => children_any A G h cy Iy W (hA.ext p) (qy.ext p) ty
  have IH := Lib.hid (fun (c : TC) (I : PI) W (p : Below w.heap.size w W) (q : PV G FT W h c I) (t : (Ix.T ++ I.T).length ≤ 65536) => ih cx c Ix I W (hA.ext p) (qx.ext p) q t)
  have h14 : (h : Int) ≤ 14 := by omega
  have hlti : (hx : Int) ≤ (h : Int) := by omega
  have hmax := Lib.hid (show max hx h = h by omega)
  have HT := Lib.hid hT
  unfold TC.v at *
  have CY := Lib.hid cY
  clear cY hA qx qy tx ty hT h13 ih hlt
  obtain ⟨xo, xh, xb, xr, xn, xt, xp, xl, xc⟩ := cx
  obtain ⟨yo, yh, yb, yr, yn, yt, yp, yl, yc⟩ := cy
  simp only at hx0 hy0 CY IH ⊢
  subst hx0 hy0
  have hz : ((h + 1 : Nat) : Int) = (h : Int) + 1 := by omega
  rw [hz] at CY ⊢
  clear hz
  generalize xh = hx at *
  have h10 : ((h : Int) + 1 == 0) = false := by rw [beq_eq_false_iff_ne]; omega
  have h11 : ((hx : Int) == (h : Int) + 1) = false := by rw [beq_eq_false_iff_ne]; omega
  obtain ⟨bz, hbz⟩ : ∃ bz, ((hx : Int) == 0) = bz := ⟨_, rfl⟩
  go_enter Tryz.func90, Tryz.ntmps90
  go_wp2_with fail
  all_goals
    refine (CY.out _ (bal (bal (Below.refl _ _)))).mono ?_
    rintro e w1 ⟨vy, l, Jy, rfl, hKy, hb1⟩
    have T1 := Lib.hid (show (TwoB w w.heap.size (w.heap.size + 1) #[.int .u64 xo, .int .i64 (hx : Int), .int .i64 xb, .int .i64 xr, .int .i64 xn, .string ⟨xt.toArray⟩, .slice xp xl xc] #[.int .u64 yo, .int .i64 ((h : Int) + 1), .int .i64 yb, .int .i64 yr, .int .i64 yn, .string ⟨yt.toArray⟩, .slice yp yl yc] 76 76) w1 from TwoB.ext hb1 ⟨bal (bal (Below.refl _ _)), (Bk.new _ _ _).alloc, bal2' w⟩)
    obtain ⟨x0, x1, x2, x3, x4, x5, x6, -⟩ := T1.out.2.1.seven
    obtain ⟨y0, y1, y2, y3, y4, y5, y6, -⟩ := T1.out.2.2.seven
    have HKy := Lib.hid hKy
    have lx2 : 2 ≤ l.length := hKy.2.2.1
    have lx4 : l.length ≤ 4 := hKy.2.2.2.1
    obtain ⟨b, off, capx, hvx, hbx, hcc⟩ := hKy.1.tc (k := 0) (by omega)
    subst hvx
    simp only [Nat.zero_mul, Nat.add_zero] at hcc
    obtain ⟨Il, hIl, hPl⟩ := hKy.2.1.get (List.getElem?_eq_getElem (show 0 < l.length by omega))
    have lxi : (l.length : Int) ≤ 4 := by omega
    have lxi2 : (2 : Int) ≤ (l.length : Int) := by omega
    have hTl : (Ix.T ++ Il.T).length ≤ 65536 := by
      have h1 := HT.out
      rw [List.length_append] at h1 ⊢
      rw [hKy.2.2.2.2.1] at h1
      have := flat_len_mem (List.mem_map_of_mem (f := PI.T) (List.mem_of_getElem? hIl))
      omega
    have cI := fun W (p : Below w1.heap.size w1 W) => IH.out l[0] Il W (bcall T1.out.1 p) (hPl.1.ext p) hTl
    obtain ⟨cp1, cp2⟩ : l.length ≤ capx ∧ capx ≤ maxLen := by
      obtain ⟨A', cap', e, q1, q2, -⟩ := hKy.1
      injection e with e1 e2 e3
      exact ⟨by omega, by omega⟩
    have hs1 : ∀ W, (Instr.slice 74 (.slice (some ⟨b, off, none⟩) l.length capx) (some (.int .i64 1)) none none).run Tryz.prog W = .ok (.slice (some ⟨b, off + 7, none⟩) (l.length - 1) (capx - 1)) W := fun W => by
      have := slT_l W b off l.length capx 1 (by omega)
      rw [if_neg (by omega)] at this; exact this
    have HPL := Lib.hid hPl; have HIL := Lib.hid hIl
    unfold TC.v at cI
    have CI := Lib.hid cI
    have HCC := Lib.hid hcc
    unfold maxLen at cp2
    clear hKy hb1 CY hcc hPl hIl cI hTl
    generalize l[0] = m at *
    obtain ⟨mo, mh, mb, mr, mn, mt, mp, ml, mc⟩ := m
    simp only at *
    go_upto_region 23 with (fail)
    have B0 := Lib.hid (bdr (Below.refl w1.heap.size w1))
    have KS := Lib.hid (show ∀ W : World, Below w1.heap.size w1 W → Hid (Below w1.heap.size w1 W) ∧ (W.cell? ⟨w.heap.size, 0, none⟩ = some (.int .u64 xo) ∧ W.cell? ⟨w.heap.size, 1, none⟩ = some (.int .i64 hx) ∧ W.cell? ⟨w.heap.size, 2, none⟩ = some (.int .i64 xb) ∧ W.cell? ⟨w.heap.size, 3, none⟩ = some (.int .i64 xr) ∧ W.cell? ⟨w.heap.size, 4, none⟩ = some (.int .i64 xn) ∧ W.cell? ⟨w.heap.size, 5, none⟩ = some (.string ⟨xt.toArray⟩) ∧ W.cell? ⟨w.heap.size, 6, none⟩ = some (.slice xp xl xc)) ∧ (W.cell? ⟨b, off, none⟩ = some (.int .u64 mo) ∧ W.cell? ⟨b, off + 1, none⟩ = some (.int .i64 mh) ∧ W.cell? ⟨b, off + 2, none⟩ = some (.int .i64 mb) ∧ W.cell? ⟨b, off + 3, none⟩ = some (.int .i64 mr) ∧ W.cell? ⟨b, off + 4, none⟩ = some (.int .i64 mn) ∧ W.cell? ⟨b, off + 5, none⟩ = some (.string ⟨mt.toArray⟩) ∧ W.cell? ⟨b, off + 6, none⟩ = some (.slice mp ml mc)) from fun W p => ⟨p, by
      obtain ⟨q0, q1, q2, q3, q4, q5, q6, -⟩ := (T1.out.2.1.ext p T1.out.2.1.lt).seven
      exact ⟨q0, q1, q2, q3, q4, q5, q6⟩, HCC.out W p⟩)
    have hix : ∀ W, (Instr.indexAt 74 (.slice (some ⟨b, off, none⟩) l.length capx) (.int .i64 0)).run Tryz.prog W = .ok (.pointer (some ⟨b, off, none⟩)) W := fun W => by
      have := ixT W b off l.length capx 0 (by omega)
      simpa using this
    clear x0 x1 x2 x3 x4 x5 x6 y0 y1 y2 y3 y4 y5 y6
    go_region_held3 (fun W => Hid (Below w1.heap.size w1 W) ∧ (W.cell? ⟨w.heap.size, 0, none⟩ = some (.int .u64 xo) ∧ W.cell? ⟨w.heap.size, 1, none⟩ = some (.int .i64 hx) ∧ W.cell? ⟨w.heap.size, 2, none⟩ = some (.int .i64 xb) ∧ W.cell? ⟨w.heap.size, 3, none⟩ = some (.int .i64 xr) ∧ W.cell? ⟨w.heap.size, 4, none⟩ = some (.int .i64 xn) ∧ W.cell? ⟨w.heap.size, 5, none⟩ = some (.string ⟨xt.toArray⟩) ∧ W.cell? ⟨w.heap.size, 6, none⟩ = some (.slice xp xl xc)) ∧ (W.cell? ⟨b, off, none⟩ = some (.int .u64 mo) ∧ W.cell? ⟨b, off + 1, none⟩ = some (.int .i64 mh) ∧ W.cell? ⟨b, off + 2, none⟩ = some (.int .i64 mb) ∧ W.cell? ⟨b, off + 3, none⟩ = some (.int .i64 mr) ∧ W.cell? ⟨b, off + 4, none⟩ = some (.int .i64 mn) ∧ W.cell? ⟨b, off + 5, none⟩ = some (.string ⟨mt.toArray⟩) ∧ W.cell? ⟨b, off + 6, none⟩ = some (.slice mp ml mc)))
      (first | exact KS.out _ B0.out | exact KS.out _ (Below.refl _ _) | (refine KS.out _ (bcall B0.out ?_); assumption))
      (first
        | (go_at_call 90; ((with_reducible refine (CI.out _ B0.out).mono ?_); rintro e w3 ⟨v3, l3, J3, rfl, hm3, hb3⟩)))
    all_goals
      rw [hmax.out] at hm3
      have HM3 := Lib.hid hm3
      have HBa := Lib.hid (bcall B0.out hb3)
      obtain ⟨a3, cap3, rfl, -⟩ := id hm3.sl
      have hl3 : l3.length ≤ 2 := by rcases hm3.len with e | e <;> omega
      have hl3' : 1 ≤ l3.length := by rcases hm3.len with e | e <;> omega
      have hXS := Lib.hid (((HKy.out.1.dropS 1 (by omega) (some ⟨b, off + 7, none⟩) (fun _ => rfl)).ext HBa.out))
      have hXA := Lib.hid (KVs.ext (HKy.out.2.1.drop 1) HBa.out)
      have hln := Lib.hid (show (l.drop 1).length = l.length - 1 by rw [List.length_drop])
      have hm := fun W : World => (World.ownsRow_made W #[] 0 (Nat.le_refl _) (by simp [maxLen]) (by simp) : Ow tcE (W.alloc (.cells #[] 76)) W.heap.size 76 (.slice (some ⟨W.heap.size, 0, none⟩) 0 0) [])
      have HM := Lib.hid hm
      have h8 := Lib.hid (show h = 0 → 8 ≤ (Ix.T ++ Il.T).length from fun e => by
        have := HPL.out.2 e
        rw [List.length_append]; omega)
      clear hm hm3 hb3 KS CI IH
      go_wp2_with fail
      have HFF := Lib.hid (fun (W : World) (p : Below w3.heap.size w3 W) (v : Value) (q : Sl tcE W v (l3 ++ l.drop 1)) => hF.out v (l3 ++ l.drop 1) (J3 ++ Jy.drop 1) W q ((KVs.ext (KVs.of_mrg HM3.out h8.out) p).append (KVs.ext hXA.out p)) (by rw [List.length_append, hln.out]; omega) (by rw [List.length_append, hln.out]; omega))
      have l3i : (l3.length : Int) ≤ 2 := by omega
      go_region_law (first
        | (refine stepOwS _ tcOK rfl (.tmp 129) (.tmp 130) rfl w3.heap.size ?_ (.slice (some ⟨w3.heap.size, 0, none⟩) 0 0) [] rfl ?_ _ l3 rfl ?_ ?_ ?_
           · simp
           · exact HM.out w3
           · exact Sl.alloc HM3.out.sl _
           · simp; omega
           intro A5 c5 w5 hown5 hg5
           have hB5 := Lib.hid ((bdr (bal (Below.refl w3.heap.size w3))).grown hg5 (by simp) (fun k hk => by have := Option.some.inj hk; simp only at this; omega))
           have HO5 := Lib.hid (show Ow tcE w5 w3.heap.size 76 (.slice A5 l3.length c5) l3 from by simpa using hown5)
           clear hown5 hg5)
        | (refine stepOwS _ tcOK rfl (.tmp 131) (.tmp 133) rfl w3.heap.size ?_ (.slice A5 l3.length c5) l3 rfl ?_ _ (l.drop 1) rfl ?_ ?_ ?_
           · exact hB5.out.size
           · exact HO5.out
           · exact Sl.ext hXS.out hB5.out
           · rw [hln.out]; omega
           rw [hln.out]
           intro A6 c6 w6 hown6 hg6
           have hB6 := Lib.hid (hB5.out.grown hg6 hB5.out.size (fun k hk => (HO5.out.lt k hk).1))
           have CG := Lib.hid (HFF.out w6 hB6.out _ hown6.sl)
           clear hown6 hg6)
        | (go_simp; go_at_call 108; refine CG.out.mono ?_; rintro e w7 ⟨v7, l7, J7, rfl, hf7, hb7⟩))
      all_goals
        go_wp2_with fail
        go_ret2
        have hJx : Jy = [Il] ++ Jy.drop 1 := take_first HIL.out
        have hsp : Il.T ++ ((Jy.drop 1).map PI.T).flatten = Iy.T := by
          rw [HKy.out.2.2.2.2.1]
          conv => rhs; rw [hJx]
          simp
        refine ⟨v7, l7, J7, rfl, ⟨hf7.sl, hf7.pv, hf7.len, ?_, fun S hS a b J hJ => ?_, fun q => by omega⟩, bcall (bcall T1.out.1 (bcall HBa.out hB6.out)) hb7⟩
        · rw [hf7.txt, List.map_append, List.flatten_append, HM3.out.txt, ← hsp, List.append_assoc]
        · refine hf7.kin S (fun K hK => ?_) J hJ
          have hKx' := HKy.out.2.2.2.2.2 S hS b
          rcases List.mem_append.1 hK with hK | hK
          · exact HM3.out.kin S hS a (hKx' Il (List.mem_of_getElem? HIL.out)) K hK
          · exact hKx' K (List.mem_of_mem_drop hK)

/-- what merge says of any two plans -/
theorem merge_any (A : AF) (G : Ar) : ∀ (n hx hy : Nat), hx + hy ≤ n → MrgSays A G hx hy := by
  intro n
  induction n with
  | zero =>
    intro hx hy hn cx cy Ix Iy w hA qx qy hT
    obtain rfl : hx = 0 := by omega
    obtain rfl : hy = 0 := by omega
    exact merge_zero A G cx cy Ix Iy w hA qx qy
  | succ n ih =>
    intro hx hy hn cx cy Ix Iy w hA qx qy hT
    match hx, hy with
    | 0, 0 => exact merge_zero A G cx cy Ix Iy w hA qx qy
    | h + 1, hy =>
      by_cases e : hy = h + 1
      · subst e
        rw [Nat.max_self]
        exact merge_same A G h cx cy Ix Iy w hA qx qy hT
      · by_cases l : hy ≤ h
        · rw [show max (h + 1) hy = h + 1 by omega]
          exact merge_left A G h hy l (ih h hy (by omega)) cx cy Ix Iy w hA qx qy hT
        · obtain ⟨k, rfl⟩ : ∃ k, hy = k + 1 := ⟨hy - 1, by omega⟩
          rw [show max (h + 1) (k + 1) = k + 1 by omega]
          exact merge_right A G k (h + 1) (by omega) (ih (h + 1) k (by omega)) cx cy Ix Iy w hA qx qy hT
    | 0, k + 1 =>
      rw [show max 0 (k + 1) = k + 1 by omega]
      exact merge_right A G k 0 (by omega) (ih 0 k (by omega)) cx cy Ix Iy w hA qx qy hT

end Go.Proofs.YtclmjnobacepjaaGreat
