/- plan.merge: the first plan is the higher one. -/
import Derived.Test.YtclmjnobacepjaaGreatJ15
namespace Go.Proofs.YtclmjnobacepjaaGreat
open Go.RowKit

/-- what merge says of two plans of these heights -/
def MrgSays (A : AF) (G : Ar) (hx hy : Nat) : Prop := ∀ (cx cy : TC) (Ix Iy : PI) (w : World), ArM w A G → PV G FT w hx cx Ix → PV G FT w hy cy Iy → (Ix.T ++ Iy.T).length ≤ 65536 →
    Calls Tryz.prog 90 #[.pointer (some ⟨A.ba, 0, none⟩), cx.v, cy.v] w fun e w' => ∃ v l Is, e = .returned (.tuple #[v, .int .i64 0]) ∧ MrgV G w' (max hx hy) Ix Iy v l Is ∧ Below w.heap.size w w'

theorem All2.last {α β : Type} {P : α → β → Prop} {l : List α} {m : List β} (h : All2 P l m) (hl : 0 < l.length) : ∃ b, m[l.length - 1]? = some b ∧ P l[l.length - 1] b := h.get (List.getElem?_eq_getElem (by omega))
theorem take_last {α : Type} {l : List α} {a : α} (h : l[l.length - 1]? = some a) (hl : 0 < l.length) : l = l.take (l.length - 1) ++ [a] := by
  obtain ⟨q, rfl⟩ := List.getElem?_eq_some_iff.1 h
  have := List.take_succ_eq_append_getElem q
  rw [show l.length - 1 + 1 = l.length by omega, List.take_length] at this
  exact this
theorem KVs.of_mrg {G : Ar} {w : World} {h : Nat} {Ix Iy : PI} {v : Value} {l : List TC} {Is : List PI} (m : MrgV G w h Ix Iy v l Is) (h8 : h = 0 → 8 ≤ (Ix.T ++ Iy.T).length) : All2 (KV G FT w h) l Is :=
  m.pv.imp fun c I _ hI p => ⟨p, fun e => m.big e (.inr (h8 e)) I hI⟩

set_option maxHeartbeats 1500000 in
set_option maxRecDepth 100000 in
theorem merge_left (A : AF) (G : Ar) (h hy : Nat) (hlt : hy ≤ h) (ih : MrgSays A G h hy) (cx cy : TC) (Ix Iy : PI) (w : World) (hA : ArM w A G) (qx : PV G FT w (h + 1) cx Ix) (qy : PV G FT w hy cy Iy) (hT : (Ix.T ++ Iy.T).length ≤ 65536) :
    Calls Tryz.prog 90 #[.pointer (some ⟨A.ba, 0, none⟩), cx.v, cy.v] w fun e w' => ∃ v l Is, e = .returned (.tuple #[v, .int .i64 0]) ∧ MrgV G w' (h + 1) Ix Iy v l Is ∧ Below w.heap.size w w' := by
  have hx0 := qx.cht
  have hy0 := qy.cht
  obtain ⟨tx, ty⟩ := catT_len hT
  have h13 := qx.ht_le hA.ok tx
  have hF := Lib.hid (fun v (l : List TC) (Is : List PI) W (q : Sl tcE W v l) (a : All2 (KV G FT W h) l Is) (b : 2 ≤ l.length) (d : l.length ≤ 5) => fold_any h (by omega) v l Is W q a b d)
  have cX := fun W (p : Below w.heap.size w W) => children_any A G h cx Ix W (hA.ext p) (qx.ext p) tx
  have IH := Lib.hid (fun (c : TC) (I : PI) W (p : Below w.heap.size w W) (q : PV G FT W h c I) (t : (I.T ++ Iy.T).length ≤ 65536) => ih c cy I Iy W (hA.ext p) q (qy.ext p) t)
  have h14 : (h : Int) ≤ 14 := by omega
  have hlti : (hy : Int) ≤ (h : Int) := by omega
  have hmax := Lib.hid (show max h hy = h by omega)
  have HT := Lib.hid hT
  unfold TC.v at *
  have CX := Lib.hid cX
  clear cX hA qx qy tx ty hT h13 ih hlt
  obtain ⟨xo, xh, xb, xr, xn, xt, xp, xl, xc⟩ := cx
  obtain ⟨yo, yh, yb, yr, yn, yt, yp, yl, yc⟩ := cy
  simp only at hx0 hy0 CX IH ⊢
  subst hx0 hy0
  have hz : ((h + 1 : Nat) : Int) = (h : Int) + 1 := by omega
  rw [hz] at CX ⊢
  clear hz
  generalize yh = hy at *
  have h10 : ((h : Int) + 1 == 0) = false := by rw [beq_eq_false_iff_ne]; omega
  have h11 : ((h : Int) + 1 == (hy : Int)) = false := by rw [beq_eq_false_iff_ne]; omega
  go_enter Tryz.func90, Tryz.ntmps90
  go_wp2_with fail
  refine (CX.out _ (bal (bal (Below.refl _ _)))).mono ?_
  rintro e w1 ⟨vx, l, Jx, rfl, hKx, hb1⟩
  have T1 := Lib.hid (show (TwoB w w.heap.size (w.heap.size + 1) #[.int .u64 xo, .int .i64 ((h : Int) + 1), .int .i64 xb, .int .i64 xr, .int .i64 xn, .string ⟨xt.toArray⟩, .slice xp xl xc] #[.int .u64 yo, .int .i64 (hy : Int), .int .i64 yb, .int .i64 yr, .int .i64 yn, .string ⟨yt.toArray⟩, .slice yp yl yc] 76 76) w1 from TwoB.ext hb1 ⟨bal (bal (Below.refl _ _)), (Bk.new _ _ _).alloc, bal2' w⟩)
  obtain ⟨x0, x1, x2, x3, x4, x5, x6, -⟩ := T1.out.2.1.seven
  obtain ⟨y0, y1, y2, y3, y4, y5, y6, -⟩ := T1.out.2.2.seven
  have HKx := Lib.hid hKx
  have lx2 : 2 ≤ l.length := hKx.2.2.1
  have lx4 : l.length ≤ 4 := hKx.2.2.2.1
  obtain ⟨b, off, capx, hvx, hbx, hcc⟩ := hKx.1.tc (k := l.length - 1) (by omega)
  subst hvx
  obtain ⟨m0, m1, m2, m3, m4, m5, m6⟩ := hcc w1 (Below.refl _ _)
  obtain ⟨Il, hIl, hPl⟩ := hKx.2.1.last (by omega)
  have lxi : (l.length : Int) ≤ 4 := by omega
  have lxi2 : (2 : Int) ≤ (l.length : Int) := by omega
  have hl1 : ((l.length - 1 : Nat) : Int) = (l.length : Int) - 1 := by omega
  have hTl : (Il.T ++ Iy.T).length ≤ 65536 := by
    have h1 := HT.out
    rw [List.length_append] at h1 ⊢
    rw [hKx.2.2.2.2.1] at h1
    have := flat_len_mem (List.mem_map_of_mem (f := PI.T) (List.mem_of_getElem? hIl))
    omega
  have cI := fun W (p : Below w1.heap.size w1 W) => IH.out l[l.length - 1] Il W (bcall T1.out.1 p) (hPl.1.ext p) hTl
  obtain ⟨cp1, cp2⟩ : l.length ≤ capx ∧ capx ≤ maxLen := by
    obtain ⟨A', cap', e, q1, q2, -⟩ := hKx.1
    injection e with e1 e2 e3
    exact ⟨by omega, by omega⟩
  have hs1 : ∀ W, (Instr.slice 74 (.slice (some ⟨b, off, none⟩) l.length capx) none (some (.int .i64 ((l.length : Int) - 1))) none).run Tryz.prog W = .ok (.slice (some ⟨b, off, none⟩) (l.length - 1) capx) W := fun W => by
    have := slT_h W (some ⟨b, off, none⟩) l.length capx (l.length - 1) (by omega)
    rw [hl1] at this; exact this
  have HPL := Lib.hid hPl; have HIL := Lib.hid hIl
  have hk0 : (0 : Int) ≤ (l.length : Int) - 1 := by omega
  have hkt : ((l.length : Int) - 1).toNat = l.length - 1 := by omega
  unfold TC.v at cI
  have CI := Lib.hid cI
  have HGT := Lib.hid (show ∀ (x : Nat), (x : Int) = x from fun _ => rfl)
  unfold maxLen at cp2
  have HCC := Lib.hid hcc
  clear hKx hb1 CX hcc hPl hIl cI hTl HGT
  generalize l[l.length - 1] = m at *
  obtain ⟨mo, mh, mb, mr, mn, mt, mp, ml, mc⟩ := m
  simp only at *
  go_upto_region 19 with (fail)
  have B0 := Lib.hid (bdr (Below.refl w1.heap.size w1))
  have KS := Lib.hid (show ∀ W : World, Below w1.heap.size w1 W → Hid (Below w1.heap.size w1 W) ∧ (W.cell? ⟨w.heap.size + 1, 0, none⟩ = some (.int .u64 yo) ∧ W.cell? ⟨w.heap.size + 1, 1, none⟩ = some (.int .i64 hy) ∧ W.cell? ⟨w.heap.size + 1, 2, none⟩ = some (.int .i64 yb) ∧ W.cell? ⟨w.heap.size + 1, 3, none⟩ = some (.int .i64 yr) ∧ W.cell? ⟨w.heap.size + 1, 4, none⟩ = some (.int .i64 yn) ∧ W.cell? ⟨w.heap.size + 1, 5, none⟩ = some (.string ⟨yt.toArray⟩) ∧ W.cell? ⟨w.heap.size + 1, 6, none⟩ = some (.slice yp yl yc)) ∧ (W.cell? ⟨b, off + (l.length - 1) * 7, none⟩ = some (.int .u64 mo) ∧ W.cell? ⟨b, off + (l.length - 1) * 7 + 1, none⟩ = some (.int .i64 mh) ∧ W.cell? ⟨b, off + (l.length - 1) * 7 + 2, none⟩ = some (.int .i64 mb) ∧ W.cell? ⟨b, off + (l.length - 1) * 7 + 3, none⟩ = some (.int .i64 mr) ∧ W.cell? ⟨b, off + (l.length - 1) * 7 + 4, none⟩ = some (.int .i64 mn) ∧ W.cell? ⟨b, off + (l.length - 1) * 7 + 5, none⟩ = some (.string ⟨mt.toArray⟩) ∧ W.cell? ⟨b, off + (l.length - 1) * 7 + 6, none⟩ = some (.slice mp ml mc)) from fun W p => ⟨p, by
    obtain ⟨q0, q1, q2, q3, q4, q5, q6, -⟩ := (T1.out.2.2.ext p T1.out.2.2.lt).seven
    exact ⟨q0, q1, q2, q3, q4, q5, q6⟩, HCC.out W p⟩)
  have hix : ∀ W, (Instr.indexAt 74 (.slice (some ⟨b, off, none⟩) l.length capx) (.int .i64 ((l.length : Int) - 1))).run Tryz.prog W = .ok (.pointer (some ⟨b, off + (l.length - 1) * 7, none⟩)) W := fun W => by
    have := ixT W b off l.length capx (l.length - 1) (by omega)
    rw [hl1] at this; exact this
  clear m0 m1 m2 m3 m4 m5 m6 x0 x1 x2 x3 x4 x5 x6 y0 y1 y2 y3 y4 y5 y6
  go_region_held3 (fun W => Hid (Below w1.heap.size w1 W) ∧ (W.cell? ⟨w.heap.size + 1, 0, none⟩ = some (.int .u64 yo) ∧ W.cell? ⟨w.heap.size + 1, 1, none⟩ = some (.int .i64 hy) ∧ W.cell? ⟨w.heap.size + 1, 2, none⟩ = some (.int .i64 yb) ∧ W.cell? ⟨w.heap.size + 1, 3, none⟩ = some (.int .i64 yr) ∧ W.cell? ⟨w.heap.size + 1, 4, none⟩ = some (.int .i64 yn) ∧ W.cell? ⟨w.heap.size + 1, 5, none⟩ = some (.string ⟨yt.toArray⟩) ∧ W.cell? ⟨w.heap.size + 1, 6, none⟩ = some (.slice yp yl yc)) ∧ (W.cell? ⟨b, off + (l.length - 1) * 7, none⟩ = some (.int .u64 mo) ∧ W.cell? ⟨b, off + (l.length - 1) * 7 + 1, none⟩ = some (.int .i64 mh) ∧ W.cell? ⟨b, off + (l.length - 1) * 7 + 2, none⟩ = some (.int .i64 mb) ∧ W.cell? ⟨b, off + (l.length - 1) * 7 + 3, none⟩ = some (.int .i64 mr) ∧ W.cell? ⟨b, off + (l.length - 1) * 7 + 4, none⟩ = some (.int .i64 mn) ∧ W.cell? ⟨b, off + (l.length - 1) * 7 + 5, none⟩ = some (.string ⟨mt.toArray⟩) ∧ W.cell? ⟨b, off + (l.length - 1) * 7 + 6, none⟩ = some (.slice mp ml mc)))
    (first | exact KS.out _ B0.out | exact KS.out _ (Below.refl _ _) | (refine KS.out _ (bcall B0.out ?_); assumption))
    (first
      | (go_at_call 90; ((with_reducible refine (CI.out _ B0.out).mono ?_); rintro e w3 ⟨v3, l3, J3, rfl, hm3, hb3⟩)))
  all_goals
    rw [hmax.out] at hm3
    have HM3 := Lib.hid hm3
    have HBa := Lib.hid (bcall B0.out hb3)
    obtain ⟨a3, cap3, rfl, -⟩ := id hm3.sl
    have hl3 : l3.length ≤ 2 := by rcases hm3.len with e | e <;> omega
    have hl3' : 1 ≤ l3.length := by rcases hm3.len with e | e <;> omega
    have hXS := Lib.hid (((HKx.out.1.takeS (l.length - 1) (by omega)).ext HBa.out))
    have hXA := Lib.hid (KVs.ext (HKx.out.2.1.take (l.length - 1)) HBa.out)
    have hln := Lib.hid (show (l.take (l.length - 1)).length = l.length - 1 by rw [List.length_take]; omega)
    have hm := fun W : World => (World.ownsRow_made W #[] 0 (Nat.le_refl _) (by simp [maxLen]) (by simp) : Ow tcE (W.alloc (.cells #[] 76)) W.heap.size 76 (.slice (some ⟨W.heap.size, 0, none⟩) 0 0) [])
    have HM := Lib.hid hm
    clear hm hm3 hb3 KS CI IH
    go_wp2_with (at_builtin; refine Hid.out ?_)
    refine Lib.hid ?_
    refine wpOwS _ tcOK rfl (.tmp 109) (.tmp 112) rfl w3.heap.size (by simp) _ [] rfl (HM.out w3) _ (l.take (l.length - 1)) rfl (hXS.out.alloc _) (by rw [hln.out]; simp; omega) ?_
    intro A5 c5 w5 hown5 hg5 _
    have hB5 := Lib.hid ((bal (Below.refl w3.heap.size w3)).grown hg5 (by simp) (fun k hk => by have := ((HM.out w3).lt k hk).1; omega))
    have hn5 : ([] : List TC).length + (l.take (l.length - 1)).length = l.length - 1 := by rw [hln.out]; simp
    rw [hn5] at hown5 ⊢
    have HO5 := Lib.hid (show Ow tcE w5 w3.heap.size 76 (.slice A5 (l.length - 1) c5) (l.take (l.length - 1)) from by simpa using hown5)
    clear hown5 hg5 hn5
    go_wp2_with (at_builtin; refine Hid.out ?_)
    refine Lib.hid ?_
    refine wpOwS _ tcOK rfl (.tmp 113) (.tmp 114) rfl w3.heap.size hB5.out.size _ (l.take (l.length - 1)) rfl HO5.out _ l3 rfl (HM3.out.sl.ext hB5.out) (by rw [hln.out]; omega) ?_
    rw [hln.out]
    intro A6 c6 w6 hown6 hg6 _
    have hB6 := Lib.hid (hB5.out.grown hg6 hB5.out.size (fun k hk => (HO5.out.lt k hk).1))
    have h8 : h = 0 → 8 ≤ (Il.T ++ Iy.T).length := fun e => by
      have := HPL.out.2 e
      rw [List.length_append]; omega
    have hA6 := (KVs.ext hXA.out hB6.out).append (KVs.ext (KVs.of_mrg HM3.out h8) hB6.out)
    have hlen6 : (l.take (l.length - 1) ++ l3).length = (l.take (l.length - 1)).length + l3.length := List.length_append
    have cg := hF.out _ _ _ w6 hown6.sl hA6 (by rw [hlen6, hln.out]; omega) (by rw [hlen6, hln.out]; omega)
    have CG := Lib.hid cg
    clear hown6 hg6 cg hA6 hlen6
    go_wp2_with fail
    ((with_reducible refine CG.out.mono ?_); rintro e w7 ⟨v7, l7, J7, rfl, hf7, hb7⟩)
    go_wp2_with fail
    go_ret2
    have hJx : Jx = Jx.take (l.length - 1) ++ [Il] := by
      have h1 := HKx.out.2.1.len
      have := take_last (l := Jx) (a := Il) (by rw [← h1]; exact HIL.out) (by omega)
      rw [← h1] at this; exact this
    have hsp : ((Jx.take (l.length - 1)).map PI.T).flatten ++ Il.T = Ix.T := by
      rw [HKx.out.2.2.2.2.1]
      conv => rhs; rw [hJx]
      simp
    refine ⟨v7, l7, J7, rfl, ⟨hf7.sl, hf7.pv, hf7.len, ?_, fun S hS a b J hJ => ?_, fun q => by omega⟩, bcall (bcall T1.out.1 (bcall HBa.out hB6.out)) hb7⟩
    · rw [hf7.txt, List.map_append, List.flatten_append, HM3.out.txt, ← hsp, List.append_assoc]
    · refine hf7.kin S (fun K hK => ?_) J hJ
      have hKx' := HKx.out.2.2.2.2.2 S hS a
      rcases List.mem_append.1 hK with hK | hK
      · exact hKx' K (List.mem_of_mem_take hK)
      · exact HM3.out.kin S hS (hKx' Il (List.mem_of_getElem? HIL.out)) b K hK

end Go.Proofs.YtclmjnobacepjaaGreat
