/- quartolaw09.MarkKeeps returns true: the walk. -/
import Derived.Test.YtibmnkdeepmabaaKnown9
import Derived.Test.YtibmnkdeepmabaaPlainK9
import Derived.Deep.RegionHeld3
namespace Go.Proofs.Ytibmnkdeepmabaa
open Go.RowKit

/-- a mark in a block of its own -/
structure BoxK (b : Nat) (m : Mk) (W : World) : Prop where
  lt : b < W.heap.size
  c0 : W.cell? ⟨b, 0, none⟩ = some (.int .u32 m.id)
  c1 : W.cell? ⟨b, 1, none⟩ = some (.int .i64 m.a)
  c2 : W.cell? ⟨b, 2, none⟩ = some (.int .u8 m.g)
theorem BoxK.ext {b : Nat} {m : Mk} {W W' : World} (h : BoxK b m W) (hb : Below W.heap.size W W') : BoxK b m W' :=
  ⟨Nat.lt_of_lt_of_le h.lt hb.size, (hb.cell (p := ⟨b, 0, none⟩) h.lt).trans h.c0, (hb.cell (p := ⟨b, 1, none⟩) h.lt).trans h.c1, (hb.cell (p := ⟨b, 2, none⟩) h.lt).trans h.c2⟩
theorem BoxK.new (w : World) (m : Mk) (t : TypeId) : BoxK w.heap.size m (w.alloc (.cells #[.int .u32 m.id, .int .i64 m.a, .int .u8 m.g] t)) :=
  ⟨by simp, (box3 w m t).1, (box3 w m t).2.1, (box3 w m t).2.2⟩
theorem below_two9 {w w2 : World} {o1 o2 : Obj} (hb : Below ((w.alloc o1).alloc o2).heap.size ((w.alloc o1).alloc o2) w2) : Below w.heap.size w w2 := below_two hb
theorem wf_set {l : List Mk} {m : Mk} (h : setE l m = 0) (hd : ∀ x, x ∈ l → x.wf) (hm : m.wf) : ∀ x, x ∈ setR l m → x.wf := by
  intro x hx
  rcases (set_mem (set_ok h).1.pw m x).1 hx with rfl | ⟨q, -⟩
  · exact hm
  · exact hd x q

set_option maxHeartbeats 8000000 in
set_option maxRecDepth 100000 in
theorem lawMarkKeeps_any (v : Value) (l : List Mk) (m k : Mk) (w : World) (h : Sl mkE w v l) (hd : ∀ m, m ∈ l → m.wf) (hl : l.length * 24 ≤ 140737488355328) (hm : m.wf) (hk : k.wf) :
    Calls Try.prog 7 #[v, m.v, k.v] w fun e w' => e = .returned (.bool true) ∧ Below w.heap.size w w' := by
  have cO := fun w x h => own9_any x l w h hl
  have cS := fun w x h => set_any x l m w h hd hm
  have BM := Lib.hid ((BoxK.new w m 32).ext ((Below.refl _ _).alloc (Nat.le_refl _) (.cells #[.int .u32 k.id, .int .i64 k.a, .int .u8 k.g] 32)))
  have BK := BoxK.new (w.alloc (.cells #[.int .u32 m.id, .int .i64 m.a, .int .u8 m.g] 32)) k 32
  rw [World.size_alloc] at BK
  have BK := Lib.hid BK
  have H := Lib.hid ((h.alloc (.cells #[.int .u32 m.id, .int .i64 m.a, .int .u8 m.g] 32)).alloc (.cells #[.int .u32 k.id, .int .i64 k.a, .int .u8 k.g] 32))
  have CO := Lib.hid cO
  clear cO h
  unfold Mk.v at *
  by_cases hs : setE l m = 0
  case neg =>
    have hE : (setE l m != 0) = true := by simpa using hs
    generalize setV l m = SV at *
    generalize setE l m = E at *
    have CS := Lib.hid cS
    clear cS hd hl hm hk hs BK
    obtain ⟨W0, hW0⟩ : ∃ W0, W0 = (w.alloc (.cells #[.int .u32 m.id, .int .i64 m.a, .int .u8 m.g] 32)).alloc (.cells #[.int .u32 k.id, .int .i64 k.a, .int .u8 k.g] 32) := ⟨_, rfl⟩
    have HW0 := Lib.hid (show ∀ w2, Below W0.heap.size W0 w2 → Below w.heap.size w w2 from fun w2 hb => by rw [hW0] at hb; exact below_two9 hb)
    rw [← hW0] at BM BK H
    go_enter Try.func7, Try.ntmps7
    go_wp2_with fail
    rw [← hW0]
    clear hW0
    go_upto_region 1 with (fail)
    go_cut [7, 8] (fun va vb wc => ∃ (AA : Option Addr) (cA : Nat), va = .slice AA SV.length cA ∧ vb = .int .i64 (E) ∧ Hid (Sl mkE wc (.slice AA SV.length cA) SV) ∧ Hid (Below W0.heap.size W0 wc))
    case first =>
      have hBd : Hid (Below W0.heap.size W0 W0.drew) := Lib.hid (Below.drew (Below.refl _ _))
      have d0 : W0.drew.cell? ⟨w.heap.size, 0, none⟩ = some (.int .u32 m.id) := BM.out.c0
      have d1 : W0.drew.cell? ⟨w.heap.size, 1, none⟩ = some (.int .i64 m.a) := BM.out.c1
      have d2 : W0.drew.cell? ⟨w.heap.size, 2, none⟩ = some (.int .u8 m.g) := BM.out.c2
      go_region_held3 (fun W => Hid (Below W0.heap.size W0 W) ∧ W.cell? ⟨w.heap.size, 0, none⟩ = some (.int .u32 m.id) ∧ W.cell? ⟨w.heap.size, 1, none⟩ = some (.int .i64 m.a) ∧ W.cell? ⟨w.heap.size, 2, none⟩ = some (.int .u8 m.g))
        (refine ⟨?_, ?_, ?_, ?_⟩ <;> first | assumption | exact And.left (by assumption) | (simp [*]; done))
        (first
          | (go_at_call 11; refine (CO.out _ _ (H.out.ext (Hid.out hBd))).mono ?_; rintro e w' ⟨vx, rfl, hown, hbq⟩
             have hB1 : Hid (Below W0.heap.size W0 w') := Lib.hid (Below.trans hBd.out hbq)
             have e0 := (hB1.out.cell (p := ⟨w.heap.size, 0, none⟩) BM.out.lt).trans BM.out.c0
             have e1 := (hB1.out.cell (p := ⟨w.heap.size, 1, none⟩) BM.out.lt).trans BM.out.c1
             have e2 := (hB1.out.cell (p := ⟨w.heap.size, 2, none⟩) BM.out.lt).trans BM.out.c2
             have HX := Lib.hid (Sl.of_own hown)
             clear hown hbq)
          | (go_at_call 18; refine (CS.out _ _ HX.out).mono ?_; rintro e w2 ⟨vy, rfl, hown, hbq⟩
             obtain ⟨AA, cA, rfl⟩ := own_form w2 (own_zero hown)
             have hB2 : Hid (Below W0.heap.size W0 w2) := Lib.hid (hB1.out.trans (hbq.mono hB1.out.size))
             have f0 := (hB2.out.cell (p := ⟨w.heap.size, 0, none⟩) BM.out.lt).trans BM.out.c0
             have f1 := (hB2.out.cell (p := ⟨w.heap.size, 1, none⟩) BM.out.lt).trans BM.out.c1
             have f2 := (hB2.out.cell (p := ⟨w.heap.size, 2, none⟩) BM.out.lt).trans BM.out.c2
             have HA := Lib.hid (Sl.of_own hown)
             clear hown hbq))
      all_goals go_wp2_with fail
      all_goals go_meet
      all_goals exact ⟨_, _, rfl, rfl, HA, hB2⟩
    case rest =>
      obtain ⟨A1, c1, rfl, rfl, S1, B1⟩ := hcut
      go_wp2_with fail
      refine (known9_any _).mono ?_
      rintro e wk ⟨rfl, hb⟩
      have BK := Lib.hid (B1.out.trans (hb.mono B1.out.size))
      clear hb
      go_wp2
      go_ret
      exact ⟨rfl, HW0.out _ BK.out⟩
  case pos =>
    obtain ⟨s1, s2, s3, s4, s5⟩ := set_ok hs
    obtain ⟨f1, f2, f3, f4, f5, f6, f7, f8⟩ := set_keeps hs
    rw [hs, s3] at cS
    have hA64 := s4.len
    have hl64 := s1.len
    have hwA := wf_set hs hd hm
    have cOA := fun w x h => own9_any x (setR l m) w h (by omega)
    have cF := fun w x h => find9_any x (setR l m) m.id w h
    rw [show fndR m.id (setR l m) = m by rw [fndR, f1]; rfl, show fndB m.id (setR l m) = true by rw [fndB, f1]; rfl] at cF
    have cD := fun w x h => drop_any x (setR l m) m.id w h hwA
    rw [f2, f3] at cD
    have cFB := fun w x h => find9_any x (wo9 m.id (setR l m)) m.id w h
    rw [show fndR m.id (wo9 m.id (setR l m)) = mz by rw [fndR, f4]; rfl, show fndB m.id (wo9 m.id (setR l m)) = false by rw [fndB, f4]; rfl] at cFB
    have cFL : ∀ i (hi : i < l.length) w x, Sl mkE w x (setR l m) → Calls Try.prog 20 #[x, .int .u32 l[i].id] w fun e w' => ∃ (y : Mk) (b : Bool), e = .returned (.tuple #[.agg #[.int .u32 y.id, .int .i64 y.a, .int .u8 y.g], .bool b]) ∧ (l[i].id ≠ m.id → y = l[i] ∧ b = true) ∧ Below w.heap.size w w' := fun i hi w x h => by
      refine (find9_any x (setR l m) l[i].id w h).mono ?_
      rintro e w' ⟨rfl, hb⟩
      refine ⟨_, _, rfl, fun hne => ?_, hb⟩
      have := (f5 l[i] (List.getElem_mem hi) hne).1
      rw [fndR, fndB, this]; exact ⟨rfl, rfl⟩
    have cFM : ∀ i (hi : i < l.length) w x, Sl mkE w x (wo9 m.id (setR l m)) → Calls Try.prog 20 #[x, .int .u32 l[i].id] w fun e w' => ∃ (y : Mk) (b : Bool), e = .returned (.tuple #[.agg #[.int .u32 y.id, .int .i64 y.a, .int .u8 y.g], .bool b]) ∧ (l[i].id ≠ m.id → y = l[i] ∧ b = true) ∧ Below w.heap.size w w' := fun i hi w x h => by
      refine (find9_any x (wo9 m.id (setR l m)) l[i].id w h).mono ?_
      rintro e w' ⟨rfl, hb⟩
      refine ⟨_, _, rfl, fun hne => ?_, hb⟩
      have := (f5 l[i] (List.getElem_mem hi) hne).2
      rw [fndR, fndB, this]; exact ⟨rfl, rfl⟩
    have cK := fun w x h => set_any x (setR l m) k w h hwA hk
    have cL := fun w x h => set_any x l k w h hd hk
    have cZ : setE l k = 0 → setE (setR l m) k = 0 → m.id ≠ k.id → ∀ w x, Sl mkE w x (setV l k) → Calls Try.prog 18 #[x, m.v] w fun e w' => ∃ v', e = .returned (.tuple #[v', .int .i64 0]) ∧ w'.ownsRow w.heap.size 32 3 v' (setV (setR l m) k).length (mkE.flat (setV (setR l m) k)) ∧ Below w.heap.size w w' := fun g1 g2 g3 w x h => by
      obtain ⟨z1, z2⟩ := set_two hs g1 g2 g3
      have e1 := (set_ok g1).2.2.1
      have e2 := (set_ok g2).2.2.1
      have e3 := (set_ok z1).2.2.1
      rw [e1] at h
      have := set_any x (setR l k) m w h (wf_set g1 hd hk) hm
      rw [z1, e3, z2] at this
      rw [e2]
      exact this
    have cT := fun w x y h k' => same9_any x y (setV (setR l m) k) (setV (setR l m) k) w h k'
    rw [sameM_refl] at cT
    unfold mz Mk.v at *
    simp only at cFB
    have n1 : ((wo9 m.id (setR l m)).length : Int) + 1 = ((setR l m).length : Int) := by omega
    have n2 : decide ((l.length : Int) + 1 < ((setR l m).length : Int)) = false := decide_eq_false (by omega)
    have n3 : decide (((setR l m).length : Int) < (l.length : Int)) = false := decide_eq_false (by omega)
    have hB64 : (wo9 m.id (setR l m)).length ≤ 64 := by omega
    have N1 := Lib.hid n1; have N2 := Lib.hid n2; have N3 := Lib.hid n3
    generalize setV (setR l m) k = CV at *
    generalize setV l k = DV at *
    generalize setE (setR l m) k = EA at *
    generalize setE l k = EL at *
    generalize wo9 m.id (setR l m) = Bv at *
    generalize setR l m = Av at *
    have CS := Lib.hid cS; have COA := Lib.hid cOA; have CF := Lib.hid cF; have CD := Lib.hid cD; have CFB := Lib.hid cFB; have CFL := Lib.hid cFL; have CFM := Lib.hid cFM; have CK := Lib.hid cK; have CL := Lib.hid cL; have CZ := Lib.hid cZ; have CT := Lib.hid cT
    clear cS cOA cF cD cFB cFL cFM cK cL cZ cT hd hl hm hk hs s1 s2 s3 s4 s5 f1 f2 f3 f4 f5 f6 f7 f8 hwA n1 n2 n3
    obtain ⟨A, cap, rfl, -, -, -⟩ := id H.out
    obtain ⟨W0, hW0⟩ : ∃ W0, W0 = (w.alloc (.cells #[.int .u32 m.id, .int .i64 m.a, .int .u8 m.g] 32)).alloc (.cells #[.int .u32 k.id, .int .i64 k.a, .int .u8 k.g] 32) := ⟨_, rfl⟩
    have HW0 := Lib.hid (show ∀ w2, Below W0.heap.size W0 w2 → Below w.heap.size w w2 from fun w2 hb => by rw [hW0] at hb; exact below_two9 hb)
    rw [← hW0] at BM BK H
    go_enter Try.func7, Try.ntmps7
    go_wp2_with fail
    rw [← hW0]
    clear hW0
    go_upto_region 1 with (fail)
    go_cut [7, 8] (fun va vb wc => ∃ (AA : Option Addr) (cA : Nat), va = .slice AA Av.length cA ∧ vb = .int .i64 (0) ∧ Hid (Sl mkE wc (.slice AA Av.length cA) Av) ∧ Hid (Below W0.heap.size W0 wc))
    case first =>
      have hBd : Hid (Below W0.heap.size W0 W0.drew) := Lib.hid (Below.drew (Below.refl _ _))
      have d0 : W0.drew.cell? ⟨w.heap.size, 0, none⟩ = some (.int .u32 m.id) := BM.out.c0
      have d1 : W0.drew.cell? ⟨w.heap.size, 1, none⟩ = some (.int .i64 m.a) := BM.out.c1
      have d2 : W0.drew.cell? ⟨w.heap.size, 2, none⟩ = some (.int .u8 m.g) := BM.out.c2
      go_region_held3 (fun W => Hid (Below W0.heap.size W0 W) ∧ W.cell? ⟨w.heap.size, 0, none⟩ = some (.int .u32 m.id) ∧ W.cell? ⟨w.heap.size, 1, none⟩ = some (.int .i64 m.a) ∧ W.cell? ⟨w.heap.size, 2, none⟩ = some (.int .u8 m.g))
        (refine ⟨?_, ?_, ?_, ?_⟩ <;> first | assumption | exact And.left (by assumption) | (simp [*]; done))
        (first
          | (go_at_call 11; refine (CO.out _ _ (H.out.ext (Hid.out hBd))).mono ?_; rintro e w' ⟨vx, rfl, hown, hbq⟩
             have hB1 : Hid (Below W0.heap.size W0 w') := Lib.hid (Below.trans hBd.out hbq)
             have e0 := (hB1.out.cell (p := ⟨w.heap.size, 0, none⟩) BM.out.lt).trans BM.out.c0
             have e1 := (hB1.out.cell (p := ⟨w.heap.size, 1, none⟩) BM.out.lt).trans BM.out.c1
             have e2 := (hB1.out.cell (p := ⟨w.heap.size, 2, none⟩) BM.out.lt).trans BM.out.c2
             have HX := Lib.hid (Sl.of_own hown)
             clear hown hbq)
          | (go_at_call 18; refine (CS.out _ _ HX.out).mono ?_; rintro e w2 ⟨vy, rfl, hown, hbq⟩
             obtain ⟨AA, cA, rfl⟩ := own_form w2 (own_zero hown)
             have hB2 : Hid (Below W0.heap.size W0 w2) := Lib.hid (hB1.out.trans (hbq.mono hB1.out.size))
             have f0 := (hB2.out.cell (p := ⟨w.heap.size, 0, none⟩) BM.out.lt).trans BM.out.c0
             have f1 := (hB2.out.cell (p := ⟨w.heap.size, 1, none⟩) BM.out.lt).trans BM.out.c1
             have f2 := (hB2.out.cell (p := ⟨w.heap.size, 2, none⟩) BM.out.lt).trans BM.out.c2
             have HA := Lib.hid (Sl.of_own hown)
             clear hown hbq))
      all_goals go_wp2_with fail
      all_goals go_meet
      all_goals exact ⟨_, _, rfl, rfl, HA, hB2⟩
    case rest =>
      obtain ⟨A1, c1, rfl, rfl, S1, B1⟩ := hcut
      have H1 := Lib.hid (H.out.ext B1.out); have M1 := Lib.hid (BM.out.ext B1.out); have K1 := Lib.hid (BK.out.ext B1.out)
      clear H BM BK CS
      have q0 := M1.out.c0
      go_wp2_with fail
      refine (CF.out _ _ S1.out).mono ?_
      rintro e w2 ⟨rfl, hb⟩
      have hb2 := hb.trans (((Below.refl w2.heap.size w2).alloc (Nat.le_refl _) (.cells #[.int .u32 m.id, .int .i64 m.a, .int .u8 m.g] 32)).mono hb.size)
      have H2 := Lib.hid (H1.out.ext hb2); have M2 := Lib.hid (M1.out.ext hb2); have K2 := Lib.hid (K1.out.ext hb2); have S2 := Lib.hid (S1.out.ext hb2)
      have B2 := Lib.hid (B1.out.trans (hb2.mono B1.out.size))
      have hne2 : ¬ w2.heap.size = w.heap.size := by have h1 := M1.out.lt; have h2 := hb.size; omega
      clear hb hb2 H1 M1 K1 S1 B1 q0 CF
      have q0 := M2.out.c0; have q1 := M2.out.c1; have q2 := M2.out.c2
      go_upto_region 7 with (fail)
      clear q0 q1 q2
      generalize w2.alloc (.cells #[.int .u32 m.id, .int .i64 m.a, .int .u8 m.g] 32) = W2 at *
      go_upto_region 7 with (fail)
      go_cut [11, 12] (fun va vb wc => ∃ (AA : Option Addr) (cA : Nat), va = .slice AA Bv.length cA ∧ vb = .int .i64 (0) ∧ Hid (Sl mkE wc (.slice AA Bv.length cA) Bv) ∧ Hid (Below W2.heap.size W2 wc))
      case first =>
        have hBd : Hid (Below W2.heap.size W2 W2.drew) := Lib.hid (Below.drew (Below.refl _ _))
        have d0 : W2.drew.cell? ⟨w.heap.size, 0, none⟩ = some (.int .u32 m.id) := M2.out.c0
        have d1 : W2.drew.cell? ⟨w.heap.size, 1, none⟩ = some (.int .i64 m.a) := M2.out.c1
        have d2 : W2.drew.cell? ⟨w.heap.size, 2, none⟩ = some (.int .u8 m.g) := M2.out.c2
        go_region_held3 (fun W => Hid (Below W2.heap.size W2 W) ∧ W.cell? ⟨w.heap.size, 0, none⟩ = some (.int .u32 m.id) ∧ W.cell? ⟨w.heap.size, 1, none⟩ = some (.int .i64 m.a) ∧ W.cell? ⟨w.heap.size, 2, none⟩ = some (.int .u8 m.g))
          (refine ⟨?_, ?_, ?_, ?_⟩ <;> first | assumption | exact And.left (by assumption) | (simp [*]; done))
          (first
            | (go_at_call 11; refine (COA.out _ _ (S2.out.ext (Hid.out hBd))).mono ?_; rintro e w' ⟨vx, rfl, hown, hbq⟩
               have hB1 : Hid (Below W2.heap.size W2 w') := Lib.hid (Below.trans hBd.out hbq)
               have e0 := (hB1.out.cell (p := ⟨w.heap.size, 0, none⟩) M2.out.lt).trans M2.out.c0
               have e1 := (hB1.out.cell (p := ⟨w.heap.size, 1, none⟩) M2.out.lt).trans M2.out.c1
               have e2 := (hB1.out.cell (p := ⟨w.heap.size, 2, none⟩) M2.out.lt).trans M2.out.c2
               have HX := Lib.hid (Sl.of_own hown)
               clear hown hbq)
            | (go_at_call 19; refine (CD.out _ _ HX.out).mono ?_; rintro e w2 ⟨vy, rfl, hown, hbq⟩
               obtain ⟨AA, cA, rfl⟩ := own_form w2 (own_zero hown)
               have hB2 : Hid (Below W2.heap.size W2 w2) := Lib.hid (hB1.out.trans (hbq.mono hB1.out.size))
               have f0 := (hB2.out.cell (p := ⟨w.heap.size, 0, none⟩) M2.out.lt).trans M2.out.c0
               have f1 := (hB2.out.cell (p := ⟨w.heap.size, 1, none⟩) M2.out.lt).trans M2.out.c1
               have f2 := (hB2.out.cell (p := ⟨w.heap.size, 2, none⟩) M2.out.lt).trans M2.out.c2
               have HA := Lib.hid (Sl.of_own hown)
               clear hown hbq))
        all_goals go_wp2_with fail
        all_goals go_meet
        all_goals exact ⟨_, _, rfl, rfl, HA, hB2⟩
      case rest =>
        obtain ⟨A3, c3, rfl, rfl, S3, B3⟩ := hcut
        have H3 := Lib.hid (H2.out.ext B3.out); have M3 := Lib.hid (M2.out.ext B3.out); have K3 := Lib.hid (K2.out.ext B3.out); have R3 := Lib.hid (S2.out.ext B3.out)
        have T3 := Lib.hid (B2.out.trans (B3.out.mono B2.out.size))
        clear H2 M2 K2 S2 B2 B3 CD
        have q0 := M3.out.c0
        go_wp2_with fail
        refine (CFB.out _ _ S3.out).mono ?_
        rintro e w4 ⟨rfl, hb⟩
        have hb2 := hb.trans (((Below.refl w4.heap.size w4).alloc (Nat.le_refl _) (.cells #[.int .u32 0, .int .i64 0, .int .u8 0] 32)).mono hb.size)
        have H4 := Lib.hid (H3.out.ext hb2); have M4 := Lib.hid (M3.out.ext hb2); have K4 := Lib.hid (K3.out.ext hb2); have R4 := Lib.hid (R3.out.ext hb2); have S4 := Lib.hid (S3.out.ext hb2)
        have B4 := Lib.hid (T3.out.trans (hb2.mono T3.out.size))
        clear hb hb2 H3 M3 K3 R3 S3 T3 q0 CFB
        go_wp2_with fail
        generalize w4.alloc (.cells #[.int .u32 0, .int .i64 0, .int .u8 0] 32) = W4 at *
        go_loopw [15] (fun y wr => ∃ j : Nat, j ≤ l.length ∧ y = .int .i64 j ∧ Hid (Below W4.heap.size W4 wr)) (fun y _ => l.length - (intOf y).toNat)
        case atStart => exact ⟨0, by omega, rfl, Lib.hid (Below.refl _ _)⟩
        case round =>
          obtain ⟨j, hj, rfl, hBj⟩ := hrel
          by_cases hlt : j < l.length
          · obtain ⟨b, off, cap', hv, hbl, c0, c1, c2⟩ := (H4.out.ext hBj.out).mk3 hlt
            obtain ⟨rfl, rfl⟩ : A = some ⟨b, off, none⟩ ∧ cap = cap' := by injection hv with e1 e2 e3; exact ⟨e1, e3⟩
            have hji : (j : Int) < (l.length : Int) := by omega
            have CX := Lib.hid (CFL.out j hlt); have CY := Lib.hid (CFM.out j hlt)
            have k0 := (M4.out.ext hBj.out).c0
            have hbm := (M4.out.ext hBj.out).lt
            clear hv
            generalize l[j] = x at *
            obtain ⟨xi, xa, xg⟩ := x
            simp only at c0 c1 c2 CX CY
            go_wp2_with fail
            refine (CX.out _ _ (R4.out.ext hBj.out)).mono ?_
            rintro e w5 ⟨y, yb, rfl, hy, hb⟩
            obtain ⟨yi, ya, yg⟩ := y
            have HY := Lib.hid hy
            clear hy
            have b5 := Lib.hid (hBj.out.trans (hb.mono hBj.out.size))
            have d0 := (hb.cell (p := ⟨b, _, none⟩) hbl).trans c0
            have d1 := (hb.cell (p := ⟨b, _, none⟩) hbl).trans c1
            have d2 := (hb.cell (p := ⟨b, _, none⟩) hbl).trans c2
            have k5 := (hb.cell (p := ⟨w.heap.size, 0, none⟩) hbm).trans k0
            have hbl5 := Nat.lt_of_lt_of_le hbl hb.size
            have hbm5 := Nat.lt_of_lt_of_le hbm hb.size
            have b6 := Lib.hid (b5.out.alloc b5.out.size (.cells #[.int .u32 yi, .int .i64 ya, .int .u8 yg] 32))
            have Y6 := Lib.hid (BoxK.new w5 ⟨yi, ya, yg⟩ 32)
            have n5 : ¬ w5.heap.size = b := by omega
            have n6 : ¬ w5.heap.size = w.heap.size := by omega
            have d0' := Lib.cell?_alloc_some (.cells #[.int .u32 yi, .int .i64 ya, .int .u8 yg] 32) d0
            have d1' := Lib.cell?_alloc_some (.cells #[.int .u32 yi, .int .i64 ya, .int .u8 yg] 32) d1
            have d2' := Lib.cell?_alloc_some (.cells #[.int .u32 yi, .int .i64 ya, .int .u8 yg] 32) d2
            have k5' := Lib.cell?_alloc_some (.cells #[.int .u32 yi, .int .i64 ya, .int .u8 yg] 32) k5
            have D0 := Lib.hid d0'; have D1 := Lib.hid d1'; have D2 := Lib.hid d2'; have K5 := Lib.hid k5'
            clear hb c0 c1 c2 k0 d1 d2 d0' d1' d2' k5' k5 hBj
            go_wp2_with fail
            refine (CY.out _ _ (S4.out.ext b6.out)).mono ?_
            rintro e w7 ⟨z, zb, rfl, hz, hb⟩
            obtain ⟨zi, za, zg⟩ := z
            have HZ := Lib.hid hz
            clear hz d0
            have hw5 : w5.heap.size < w7.heap.size := Nat.lt_of_lt_of_le (by simp) hb.size
            have b7 := Lib.hid ((b6.out.trans (hb.mono b6.out.size)).alloc (Nat.le_trans b6.out.size hb.size) (.cells #[.int .u32 zi, .int .i64 za, .int .u8 zg] 32))
            have Y7 := Y6.out.ext hb
            have y0 := Y7.c0; have y1 := Y7.c1; have y2 := Y7.c2
            simp only at y0 y1 y2
            have d0 := (hb.cell (p := ⟨b, _, none⟩) (by simp; omega)).trans D0.out
            have d1 := (hb.cell (p := ⟨b, _, none⟩) (by simp; omega)).trans D1.out
            have d2 := (hb.cell (p := ⟨b, _, none⟩) (by simp; omega)).trans D2.out
            have k7 := (hb.cell (p := ⟨w.heap.size, 0, none⟩) (by simp; omega)).trans K5.out
            have e0 := Lib.cell?_alloc_some (.cells #[.int .u32 zi, .int .i64 za, .int .u8 zg] 32) d0
            have e1 := Lib.cell?_alloc_some (.cells #[.int .u32 zi, .int .i64 za, .int .u8 zg] 32) d1
            have e2 := Lib.cell?_alloc_some (.cells #[.int .u32 zi, .int .i64 za, .int .u8 zg] 32) d2
            have ek := Lib.cell?_alloc_some (.cells #[.int .u32 zi, .int .i64 za, .int .u8 zg] 32) k7
            have n7 : ¬ w7.heap.size = b := by omega
            have n7' : ¬ b = w7.heap.size := by omega
            have n8 : ¬ w7.heap.size = w.heap.size := by omega
            have n9 : ¬ w7.heap.size = w5.heap.size := by omega
            clear hb D0 D1 D2 K5 Y6 Y7 b5 b6
            by_cases q : xi = m.id
            · have q' : (xi != m.id) = false := by simpa using q
              have q2 : (xi == m.id) = true := by simpa using q
              clear HY HZ q
              go_wp2_with fail
              go_quiet (fail)
              go_wp2_with fail
              go_roundw
              case rel => exact ⟨j + 1, by omega, by go_num, Lib.hid (below_drewN b7.out _)⟩
              case measure => simp [intOf]; omega
            · have q' : (xi != m.id) = true := by simpa using q
              have q2 : (xi == m.id) = false := by simpa using q
              obtain ⟨ee1, rfl⟩ := HY.out q
              obtain ⟨ee2, rfl⟩ := HZ.out q
              injection ee1 with e11 e12 e13
              injection ee2 with e21 e22 e23
              subst e11 e12 e13 e21 e22 e23
              clear HY HZ q
              go_wp2_with fail
              go_quiet (fail)
              go_wp2_with fail
              go_roundw
              case rel => exact ⟨j + 1, by omega, by go_num, Lib.hid (below_drewN b7.out _)⟩
              case measure => simp [intOf]; omega
          · have H5 := Lib.hid (H4.out.ext hBj.out); have M5 := Lib.hid (M4.out.ext hBj.out); have K5 := Lib.hid (K4.out.ext hBj.out); have R5 := Lib.hid (R4.out.ext hBj.out)
            have B5 := Lib.hid (B4.out.trans (hBj.out.mono B4.out.size))
            have m1 : (((Bv.length : Int) + 1 != (Av.length : Int))) = false := by have := N1.out; simp; omega
            have m1' : (((Bv.length : Int) + 1 == (Av.length : Int))) = true := by have := N1.out; simp; omega
            have m2 := N2.out; have m3 := N3.out
            have m4 : decide (Av.length < l.length) = false := decide_eq_false (by have := of_decide_eq_false N3.out; omega)
            clear H4 M4 K4 R4 S4 B4 hBj CFL CFM N1 N2 N3
            obtain ⟨W5, hW5⟩ : ∃ W5, W5 = wr := ⟨_, rfl⟩
            subst hW5
            go_upto_region 20 with (fail)
            go_cut [8, 20] (fun vb va wc => ∃ (AA : Option Addr) (cA : Nat), va = .slice AA CV.length cA ∧ vb = .int .i64 (EA) ∧ Hid (Sl mkE wc (.slice AA CV.length cA) CV) ∧ Hid (Below W5.heap.size W5 wc))
            case first =>
              have hBd : Hid (Below W5.heap.size W5 W5.drew) := Lib.hid (Below.drew (Below.refl _ _))
              have d0 : W5.drew.cell? ⟨(w.heap.size + 1), 0, none⟩ = some (.int .u32 k.id) := K5.out.c0
              have d1 : W5.drew.cell? ⟨(w.heap.size + 1), 1, none⟩ = some (.int .i64 k.a) := K5.out.c1
              have d2 : W5.drew.cell? ⟨(w.heap.size + 1), 2, none⟩ = some (.int .u8 k.g) := K5.out.c2
              go_region_held3 (fun W => Hid (Below W5.heap.size W5 W) ∧ W.cell? ⟨(w.heap.size + 1), 0, none⟩ = some (.int .u32 k.id) ∧ W.cell? ⟨(w.heap.size + 1), 1, none⟩ = some (.int .i64 k.a) ∧ W.cell? ⟨(w.heap.size + 1), 2, none⟩ = some (.int .u8 k.g))
                (refine ⟨?_, ?_, ?_, ?_⟩ <;> first | assumption | exact And.left (by assumption) | (simp [*]; done))
                (first
                  | (go_at_call 11; refine (COA.out _ _ (R5.out.ext (Hid.out hBd))).mono ?_; rintro e w' ⟨vx, rfl, hown, hbq⟩
                     have hB1 : Hid (Below W5.heap.size W5 w') := Lib.hid (Below.trans hBd.out hbq)
                     have e0 := (hB1.out.cell (p := ⟨(w.heap.size + 1), 0, none⟩) K5.out.lt).trans K5.out.c0
                     have e1 := (hB1.out.cell (p := ⟨(w.heap.size + 1), 1, none⟩) K5.out.lt).trans K5.out.c1
                     have e2 := (hB1.out.cell (p := ⟨(w.heap.size + 1), 2, none⟩) K5.out.lt).trans K5.out.c2
                     have HX := Lib.hid (Sl.of_own hown)
                     clear hown hbq)
                  | (go_at_call 18; refine (CK.out _ _ HX.out).mono ?_; rintro e w2 ⟨vy, rfl, hown, hbq⟩
                     obtain ⟨AA, cA, rfl⟩ := own_form w2 (own_zero hown)
                     have hB2 : Hid (Below W5.heap.size W5 w2) := Lib.hid (hB1.out.trans (hbq.mono hB1.out.size))
                     have f0 := (hB2.out.cell (p := ⟨(w.heap.size + 1), 0, none⟩) K5.out.lt).trans K5.out.c0
                     have f1 := (hB2.out.cell (p := ⟨(w.heap.size + 1), 1, none⟩) K5.out.lt).trans K5.out.c1
                     have f2 := (hB2.out.cell (p := ⟨(w.heap.size + 1), 2, none⟩) K5.out.lt).trans K5.out.c2
                     have HA := Lib.hid (Sl.of_own hown)
                     clear hown hbq))
              all_goals go_wp2_with fail
              all_goals go_meet
              all_goals exact ⟨_, _, rfl, rfl, HA, hB2⟩
            case rest =>
              obtain ⟨A6, c6, rfl, rfl, S6, B6⟩ := hcut
              have H6 := Lib.hid (H5.out.ext B6.out); have M6 := Lib.hid (M5.out.ext B6.out); have K6 := Lib.hid (K5.out.ext B6.out)
              have T6 := Lib.hid (B5.out.trans (B6.out.mono B5.out.size))
              clear H5 M5 K5 R5 B5 B6 CK m1 m1' m2 m3 m4
              obtain ⟨W6, hW6⟩ : ∃ W6, W6 = wc := ⟨_, rfl⟩
              subst hW6
              go_upto_region 21 with (fail)
              go_cut [12, 21] (fun vb va wc => ∃ (AA : Option Addr) (cA : Nat), va = .slice AA DV.length cA ∧ vb = .int .i64 (EL) ∧ Hid (Sl mkE wc (.slice AA DV.length cA) DV) ∧ Hid (Below W6.heap.size W6 wc))
              case first =>
                have hBd : Hid (Below W6.heap.size W6 W6.drew) := Lib.hid (Below.drew (Below.refl _ _))
                have d0 : W6.drew.cell? ⟨(w.heap.size + 1), 0, none⟩ = some (.int .u32 k.id) := K6.out.c0
                have d1 : W6.drew.cell? ⟨(w.heap.size + 1), 1, none⟩ = some (.int .i64 k.a) := K6.out.c1
                have d2 : W6.drew.cell? ⟨(w.heap.size + 1), 2, none⟩ = some (.int .u8 k.g) := K6.out.c2
                go_region_held3 (fun W => Hid (Below W6.heap.size W6 W) ∧ W.cell? ⟨(w.heap.size + 1), 0, none⟩ = some (.int .u32 k.id) ∧ W.cell? ⟨(w.heap.size + 1), 1, none⟩ = some (.int .i64 k.a) ∧ W.cell? ⟨(w.heap.size + 1), 2, none⟩ = some (.int .u8 k.g))
                  (refine ⟨?_, ?_, ?_, ?_⟩ <;> first | assumption | exact And.left (by assumption) | (simp [*]; done))
                  (first
                    | (go_at_call 11; refine (CO.out _ _ (H6.out.ext (Hid.out hBd))).mono ?_; rintro e w' ⟨vx, rfl, hown, hbq⟩
                       have hB1 : Hid (Below W6.heap.size W6 w') := Lib.hid (Below.trans hBd.out hbq)
                       have e0 := (hB1.out.cell (p := ⟨(w.heap.size + 1), 0, none⟩) K6.out.lt).trans K6.out.c0
                       have e1 := (hB1.out.cell (p := ⟨(w.heap.size + 1), 1, none⟩) K6.out.lt).trans K6.out.c1
                       have e2 := (hB1.out.cell (p := ⟨(w.heap.size + 1), 2, none⟩) K6.out.lt).trans K6.out.c2
                       have HX := Lib.hid (Sl.of_own hown)
                       clear hown hbq)
                    | (go_at_call 18; refine (CL.out _ _ HX.out).mono ?_; rintro e w2 ⟨vy, rfl, hown, hbq⟩
                       obtain ⟨AA, cA, rfl⟩ := own_form w2 (own_zero hown)
                       have hB2 : Hid (Below W6.heap.size W6 w2) := Lib.hid (hB1.out.trans (hbq.mono hB1.out.size))
                       have f0 := (hB2.out.cell (p := ⟨(w.heap.size + 1), 0, none⟩) K6.out.lt).trans K6.out.c0
                       have f1 := (hB2.out.cell (p := ⟨(w.heap.size + 1), 1, none⟩) K6.out.lt).trans K6.out.c1
                       have f2 := (hB2.out.cell (p := ⟨(w.heap.size + 1), 2, none⟩) K6.out.lt).trans K6.out.c2
                       have HA := Lib.hid (Sl.of_own hown)
                       clear hown hbq))
                all_goals go_wp2_with fail
                all_goals go_meet
                all_goals exact ⟨_, _, rfl, rfl, HA, hB2⟩
              case rest =>
                obtain ⟨A7, c7, rfl, rfl, S7, B7⟩ := hcut
                have M7 := Lib.hid (M6.out.ext B7.out); have K7 := Lib.hid (K6.out.ext B7.out); have C7 := Lib.hid (S6.out.ext B7.out)
                have T7 := Lib.hid (T6.out.trans (B7.out.mono T6.out.size))
                clear H6 M6 K6 S6 T6 B7 CL CO COA
                have m0 := M7.out.c0; have m1 := M7.out.c1; have m2 := M7.out.c2; have k0 := K7.out.c0
                by_cases hEA : EA = 0
                case neg =>
                  have hEA' : (EA != 0) = true := by simpa using hEA
                  clear CZ hEA
                  go_wp2_with fail
                  refine (known9_any _).mono ?_
                  rintro e wk ⟨rfl, hb⟩
                  have BK := Lib.hid (T7.out.trans (hb.mono T7.out.size))
                  clear hb
                  go_wp2
                  go_ret
                  exact ⟨rfl, HW0.out _ BK.out⟩
                case pos =>
                  have hEA' : (EA != 0) = false := by simpa using hEA
                  by_cases hEL : EL = 0
                  case neg =>
                    have hEL' : (EL != 0) = true := by simpa using hEL
                    clear CZ hEA hEL
                    go_wp2_with fail
                    refine (known9_any _).mono ?_
                    rintro e wk ⟨rfl, hb⟩
                    have BK := Lib.hid (T7.out.trans (hb.mono T7.out.size))
                    clear hb
                    go_wp2
                    go_ret
                    exact ⟨rfl, HW0.out _ BK.out⟩
                  case pos =>
                    have hEL' : (EL != 0) = false := by simpa using hEL
                    by_cases hid : m.id = k.id
                    case pos =>
                      have hid' : (m.id == k.id) = true := by simpa using hid
                      clear CZ hEA hEL hid
                      go_wp2_with fail
                      refine (known9_any _).mono ?_
                      rintro e wk ⟨rfl, hb⟩
                      have BK := Lib.hid (T7.out.trans (hb.mono T7.out.size))
                      clear hb
                      go_wp2
                      go_ret
                      exact ⟨rfl, HW0.out _ BK.out⟩
                    case neg =>
                      have hid' : (m.id == k.id) = false := by simpa using hid
                      have CZ2 := Lib.hid (CZ.out hEL hEA hid)
                      clear CZ hEA hEL hid
                      go_wp2_with fail
                      refine (CZ2.out _ _ S7.out).mono ?_
                      rintro e w8 ⟨vz, rfl, hown, hb⟩
                      have Z8 := Lib.hid (Sl.of_own hown); have C8 := Lib.hid (C7.out.ext hb)
                      have T8 := Lib.hid (T7.out.trans (hb.mono T7.out.size))
                      clear hown hb
                      go_wp2_with fail
                      refine (CT.out _ _ _ C8.out Z8.out).mono ?_
                      rintro e w9 ⟨rfl, hb⟩
                      have T9 := Lib.hid (T8.out.trans (hb.mono T8.out.size))
                      clear hb
                      go_wp2_with fail
                      refine (known9_any _).mono ?_
                      rintro e wk ⟨rfl, hb⟩
                      have BK := Lib.hid (T9.out.trans (hb.mono T9.out.size))
                      clear hb
                      go_wp2
                      go_ret
                      exact ⟨rfl, HW0.out _ BK.out⟩

end Go.Proofs.Ytibmnkdeepmabaa
