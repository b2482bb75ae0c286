/- quartolaw07.TransformRebases returns true: the walk. -/
import Derived.Test.YtdlbjfgpfjcpaaaRef7e
import Derived.Test.YtdlbjfgpfjcpaaaKnown7
import Derived.Deep.RegionHeld3
namespace Go.Proofs.Ytdlbjfgpfjcpaaa
open Go.RowKit

/-- rows of pieces of the first lists -/
def Rws (w : World) (B : Nat) (L : List (List Pc)) (vs : List SV) : Prop :=
  ∀ (i : Nat) (x : SV) (l : List Pc), vs[i]? = some x → L[i]? = some l → w.ownsRow B 31 3 x.v l.length (pcE.flat l)
theorem Rws.below {w w' : World} {B : Nat} {L : List (List Pc)} {vs : List SV} (h : Rws w B L vs) (hb : Below w.heap.size w w') : Rws w' B L vs :=
  fun i x l hx hl => own_keepB (h i x l hx hl) (Fr.of_below (T := fun _ => False) hb) (fun _ _ h => h)
theorem Rws.snoc {w w8 : World} {B : Nat} {L : List (List Pc)} {vs : List SV} {k : Nat} (h : Rws w B L vs) (hk : vs.length = k) (hlt : k < L.length) {A4 : Option Addr} {c4 : Nat} {C : Nat} {A : Option Addr} {c : Nat} {o : Obj}
    (hO : w.ownsRow C 22 1 (.slice A4 vs.length c4) vs.length (svE.flat vs)) (hn : w.ownsRow B 31 3 (.slice A L[k].length c) L[k].length (pcE.flat L[k]))
    (hg : (w.alloc o).grownBy w8 (Value.slice A4 vs.length c4).ownBlock) : Rws w8 B L (vs ++ [⟨A, L[k].length, c⟩]) := by
  have key : ∀ (x : SV) (l : List Pc), w.ownsRow B 31 3 x.v l.length (pcE.flat l) → w8.ownsRow B 31 3 x.v l.length (pcE.flat l) :=
    fun x l hx => own_other (hx.alloc o) (hO.alloc o) (by decide) hg
  intro i x l hx hl
  by_cases hi : i < k
  · rw [List.getElem?_append_left (by omega)] at hx
    exact key x l (h i x l hx hl)
  · have hi' : i = k := by
      have := (List.getElem?_eq_some_iff.1 hx).1
      rw [List.length_append, List.length_singleton] at this
      omega
    subst hi'
    rw [List.getElem?_append_right (by omega), hk, Nat.sub_self] at hx
    obtain rfl : _ = x := by simpa using hx
    rw [List.getElem?_eq_getElem hlt] at hl
    injection hl with hl
    subst hl
    exact key _ _ hn
theorem Rws.sll {w : World} {B C : Nat} {L : List (List Pc)} {vs : List SV} {A : Option Addr} {c : Nat} (h : Rws w C L vs) (hk : vs.length = L.length) (ho : w.ownsRow B 22 1 (.slice A vs.length c) vs.length (svE.flat vs)) : Sll w (.slice A L.length c) L :=
  ⟨vs, hk ▸ Sl.of_own ho, hk, fun i x l hx hl => Sl.of_own (h i x l hx hl)⟩

set_option maxHeartbeats 8000000 in
set_option maxRecDepth 100000 in
theorem lawTransformRebases_any (v : Value) (d : List Pc) (v' : Value) (L : List (List Pc)) (w : World) (h : Sl pcE w v d) (hd : ∀ p, p ∈ d → p.wf) (hl : d.length * 32 ≤ 140737488355328) (ht : ∀ p, p ∈ d → p.t.length ≤ 140737488355328) (h' : Sll w v' L) (hq : ∀ l ∈ L, (∀ p ∈ l, p.wf) ∧ l.length * 32 ≤ 140737488355328 ∧ ∀ p ∈ l, p.t.length ≤ 140737488355328) :
    Calls Try.prog 15 #[v, v'] w fun e w' => e = .returned (.bool true) ∧ Below w.heap.size w w' := by
  have cD := fun w h => large_any v d w h hd ht
  have cO := Lib.hid fun w h => own7_any v d w h hl
  have H := Lib.hid h'; have D := Lib.hid h
  obtain ⟨V, cap, rfl, h2, h3⟩ := h'.form
  unfold maxLen at h3
  by_cases g0 : 8 < L.length
  · have g1 : (8 : Int) < (L.length : Int) := by omega
    clear cD cO h h' hd hl ht hq H D
    go_enter Try.func15, Try.ntmps15
    go_wp2_with fail
    refine (known7_any _).mono ?_
    rintro e w2 ⟨rfl, hb⟩
    have B2 := Lib.hid hb
    clear hb
    go_wp2
    go_ret
    exact ⟨rfl, B2.out⟩
  have g1 : ¬ (8 : Int) < (L.length : Int) := by omega
  rcases A : largeB d with g2 | g2
  case true =>
    rw [A] at cD
    have CD := Lib.hid cD
    clear cD cO A h h' hd hl ht hq H
    go_enter Try.func15, Try.ntmps15
    go_wp2_with fail
    refine (CD.out _ D.out).mono ?_
    rintro e w1 ⟨rfl, hb⟩
    have B1 := Lib.hid hb
    clear hb
    go_wp2_with fail
    refine (known7_any _).mono ?_
    rintro e w2 ⟨rfl, hb⟩
    have B2 := Lib.hid (B1.out.trans (hb.mono B1.out.size))
    clear hb
    go_wp2
    go_ret
    exact ⟨rfl, B2.out⟩
  rw [A] at cD
  have hwf : ∀ l, l ∈ L → ∀ p, p ∈ l → p.wf := fun l hl => (hq l hl).1
  have hN : errL d = 0 → iN d ≤ 6000 := fun e => by
    have := small_out A e
    have := kN_in ((errL_iff d).1 e).2.1
    omega
  have cA := Lib.hid fun x y w h k => rebase_any x d y L w h hd k hwf (by omega)
  have cR := Lib.hid fun (hB0 : ∀ l, l ∈ L → largeB l = false) x y w h k => refRebase7_any x d y L w h hd k hwf (fun l hl e => small_out (hB0 l hl) e) hN
  have HQ := Lib.hid hq
  have CD := Lib.hid cD
  clear cD A hq hwf hN h h' hd hl ht
  generalize rebE d L = E at *
  generalize rebR d L = R at *
  obtain ⟨i1, hj, hy0, hy1, hy2⟩ := info_parts infoSlice
  go_enter Try.func15, Try.ntmps15
  go_wp2_with fail
  refine (CD.out _ D.out).mono ?_
  rintro e w1 ⟨rfl, hb⟩
  have B1 := Lib.hid hb
  clear hb CD
  go_wp2_with fail
  go_loopw [5, 6] (fun vo i wr => ∃ (k : Nat) (vs : List SV) (A4 : Option Addr) (c4 : Nat), k ≤ L.length ∧ i = .int .i64 k ∧ vs.length = k ∧ vo = .slice A4 vs.length c4 ∧ Hid (Rws wr w.heap.size L vs) ∧ Hid (wr.ownsRow w.heap.size 22 1 (.slice A4 vs.length c4) vs.length (svE.flat vs)) ∧ Hid (∀ (j : Nat) (h : j < L.length), j < k → largeB L[j] = false) ∧ Hid (Below w.heap.size w wr)) (fun _ i _ => L.length - (intOf i).toNat)
  case atStart => exact ⟨0, [], none, 0, by omega, rfl, rfl, rfl, Lib.hid (fun i x p hx => by cases hx), Lib.hid (World.ownsRow_nil _ _ _ _), Lib.hid (fun j _ hj => absurd hj (Nat.not_lt_zero _)), B1⟩
  case round =>
    obtain ⟨k, vs, A4, c4, hk, rfl, hvl, rfl, hE, hO, hG, hB⟩ := hrel
    have hsz := hB.out.size
    by_cases hlt : k < L.length
    · obtain ⟨b, off, cap', A5, c5, hv, hb, hS, hc⟩ := H.out.at_ hlt
      obtain ⟨rfl, rfl⟩ : V = some ⟨b, off, none⟩ ∧ cap = cap' := by injection hv with e1 e2 e3; exact ⟨e1, e3⟩
      have c0 := hc _ hB.out
      have hbw : b < wr.heap.size := Nat.lt_of_lt_of_le hb hsz
      have S1 := Lib.hid (hS.ext hB.out)
      have cl := fun (w : World) (h : Sl pcE w (.slice A5 L[k].length c5) L[k]) => large_any (.slice A5 L[k].length c5) L[k] w h (HQ.out _ (List.getElem_mem hlt)).1 (HQ.out _ (List.getElem_mem hlt)).2.2
      have cO' := fun (w : World) (h : Sl pcE w (.slice A5 L[k].length c5) L[k]) => own7_any (.slice A5 L[k].length c5) L[k] w h (HQ.out _ (List.getElem_mem hlt)).2.1
      have CO := Lib.hid cO'
      have hSn := fun (W w8 : World) (A : Option Addr) (c : Nat) (o : Obj) (hr : Rws W w.heap.size L vs) hO hn hg => hr.snoc (w8 := w8) (A4 := A4) (c4 := c4) (C := w.heap.size) (A := A) (c := c) (o := o) hvl hlt hO hn hg
      have HS := Lib.hid hSn
      have HV := Lib.hid hvl
      have hvk : vs.length ≤ 12 := by omega
      clear hv hc cO' hS hSn hvl
      rcases A : largeB L[k] with g2 | g2
      case true =>
        rw [A] at cl
        have CL := Lib.hid cl
        clear A cl CO HS HV hE hO hG
        generalize L[k] = l at *
        go_wp2_with fail
        refine (CL.out _ S1.out).mono ?_
        rintro e w2 ⟨rfl, hb2⟩
        have B2 := Lib.hid (hB.out.trans (hb2.mono hsz))
        clear hb2 hB
        go_wp2_with fail
        refine (known7_any _).mono ?_
        rintro e w3 ⟨rfl, hb⟩
        have B3 := Lib.hid (B2.out.trans (hb.mono B2.out.size))
        clear hb
        go_wp2
        go_ret
        exact ⟨rfl, B3.out⟩
      rw [A] at cl
      have CL := Lib.hid cl
      have HG := Lib.hid (show ∀ (j : Nat) (h : j < L.length), j < k + 1 → largeB L[j] = false from fun j h hj => by
        by_cases e : j = k
        · subst e; exact A
        · exact hG.out j h (by omega))
      clear A cl hG
      generalize hl : L[k] = l at *
      have HL := Lib.hid hl
      clear hl
      go_wp2_with fail
      refine (CL.out _ S1.out).mono ?_
      rintro e w3 ⟨rfl, hb3⟩
      have hE3 := Lib.hid (hE.out.below hb3)
      have hO3 := Lib.hid (own_keepB hO.out (Fr.of_below (T := fun _ => False) hb3) (fun _ _ h => h))
      have c03 := (hb3.cell (p := ⟨b, off + k, none⟩) hbw).trans c0
      have S3 := Lib.hid (S1.out.ext hb3)
      have hB3 := Lib.hid (hB.out.trans (hb3.mono hsz))
      have hsz3 := hB3.out.size
      have hbw3 : b < w3.heap.size := Nat.lt_of_lt_of_le hbw hb3.size
      clear hb3 hE hO c0 S1 hB hsz hbw CL
      go_wp2_with fail
      refine (CO.out _ S3.out).mono ?_
      rintro e w4 ⟨v4, rfl, ho, hb4⟩
      obtain ⟨A6, c6, rfl⟩ := own_form _ (own_zero ho)
      have hE4 := hE3.out.below hb4
      have hO4 := own_keepB hO3.out (Fr.of_below (T := fun _ => False) hb4) (fun _ _ h => h)
      have ho4 := own_base (own_zero ho) (fun g hg => Nat.le_trans hsz3 (ho.lt g hg).1)
      have HS4 := Lib.hid (fun w8 o hg => HS.out w4 w8 A6 c6 o hE4 hO4 ho4 hg)
      have B4 := Lib.hid (hB3.out.trans (hb4.mono hsz3))
      have O4 := Lib.hid hO4
      have L4 := B4.out.size
      clear hb4 ho hE4 hO4 ho4 HS hE3 hO3 hB3 CO S3
      go_wp2_with (at_builtin; refine Hid.out ?_)
      refine Lib.hid ?_
      refine wpListB_append _ rfl (.tmp 33) (.tmp 39) 32 32 rfl w.heap.size (by simp; omega) 22 i1 _ 1 24 Try.underlying32 hj hy0 hy1 hy2 rfl (by decide) _ _ _ rfl (O4.out.alloc _) _ 1 _ rfl (src_one svE Try.underlying32 (off := 0) ⟨A6, l.length, c6⟩ _ (new_cells _ _ _)) (by unfold maxLen; omega) (by omega) ?_
      intro A8 c8 w8 hown8 hg8 _ _
      have HO8 := Lib.hid hown8
      have HE8 := Lib.hid (HS4.out _ _ hg8)
      have HB8 := Lib.hid ((B4.out.alloc L4 _).grown hg8 (by simp; omega) (fun g hg => (O4.out.lt g hg).1))
      clear hown8 hg8 HS4
      go_wp2_with fail
      go_roundw
      case rel => exact ⟨k + 1, vs ++ [⟨A6, l.length, c6⟩], A8, c8, by omega, by go_num, by simp [HV.out], by simp [HV.out], HE8, Lib.hid (by rw [List.length_append, svE.flat_append]; exact HO8.out), HG, HB8⟩
      case measure => simp [intOf]; omega
    · have hkl : vs.length = L.length := by omega
      have hS := hE.out.sll hkl hO.out
      have hvo : (.slice A4 vs.length c4 : Value) = .slice A4 L.length c4 := by rw [hkl]
      rw [hvo]
      have X1 := Lib.hid hS
      have H1 := Lib.hid (H.out.ext hB.out)
      have D1 := Lib.hid (D.out.ext hB.out)
      have CR := Lib.hid (cR.out (fun l hl => by
        obtain ⟨j, hj, rfl⟩ := List.mem_iff_getElem.1 hl
        exact hG.out j hj (by omega)))
      have B2 := hB
      clear hS hkl hvl hvo hE hO hB hG H B1 HQ D cR
      generalize (.slice A4 L.length c4 : Value) = x at *
      go_wp2_with fail
      refine (cO.out _ D1.out).mono ?_
      rintro e w3 ⟨v3, rfl, ho, hb⟩
      have Y3 := Lib.hid (Sl.of_own ho)
      have D3 := Lib.hid (D1.out.ext hb); have X3 := Lib.hid (X1.out.ext hb); have H3 := Lib.hid (H1.out.ext hb)
      have B3 := Lib.hid (B2.out.trans (hb.mono B2.out.size))
      clear ho hb D1 X1 H1 B2 cO
      go_wp2_with fail
      refine (cA.out _ _ _ Y3.out X3.out).mono ?_
      rintro e w4 ⟨v4, rfl, ho, hb⟩
      have G4 := Lib.hid (Sl.of_own ho)
      have D4 := Lib.hid (D3.out.ext hb); have Y4 := Lib.hid (Y3.out.ext hb); have X4 := Lib.hid (X3.out.ext hb); have H4 := Lib.hid (H3.out.ext hb)
      have B4 := Lib.hid (B3.out.trans (hb.mono B3.out.size))
      clear ho hb D3 Y3 X3 H3 B3 cA
      go_wp2_with fail
      refine (CR.out _ _ _ D4.out H4.out).mono ?_
      rintro e w5 ⟨v5, rfl, ho, hb⟩
      have G5 := Lib.hid (G4.out.ext hb)
      have R5 := Lib.hid (Sl.of_own ho)
      have D5 := Lib.hid (D4.out.ext hb); have Y5 := Lib.hid (Y4.out.ext hb); have X5 := Lib.hid (X4.out.ext hb); have H5 := Lib.hid (H4.out.ext hb)
      have B5 := Lib.hid (B4.out.trans (hb.mono B4.out.size))
      clear ho hb D4 Y4 X4 H4 B4 G4 CR
      have hEE : (E != E) = false := by simp
      go_wp2_with fail
      refine (same_any _ _ R R _ G5.out R5.out).mono ?_
      rintro e w5b ⟨rfl, hb⟩
      have D5b := Lib.hid (D5.out.ext hb); have Y5b := Lib.hid (Y5.out.ext hb); have X5b := Lib.hid (X5.out.ext hb); have H5b := Lib.hid (H5.out.ext hb)
      have B5b := Lib.hid (B5.out.trans (hb.mono B5.out.size))
      clear hb D5 Y5 X5 H5 B5 G5 R5
      rw [sameB_refl R]
      go_wp2_with fail
      refine (same_any _ _ d d _ Y5b.out D5b.out).mono ?_
      rintro e w6 ⟨rfl, hb⟩
      have X6 := Lib.hid (X5b.out.ext hb); have H6 := Lib.hid (H5b.out.ext hb)
      have B6 := Lib.hid (B5b.out.trans (hb.mono B5b.out.size))
      clear hb X5b H5b B5b D5b Y5b
      rw [sameB_refl d]
      go_wp2_with fail
      obtain ⟨X, capx, rfl, hx2, hx3⟩ := X6.out.form
      unfold maxLen at hx3
      go_loopw [12] (fun i wi => ∃ k : Nat, k ≤ L.length ∧ i = .int .i64 k ∧ Hid (Below w6.heap.size w6 wi)) (fun i _ => L.length - (intOf i).toNat)
      case atStart => exact ⟨0, by omega, rfl, Lib.hid (Below.refl _ _)⟩
      case round =>
        obtain ⟨k, hk, rfl, hB⟩ := hrel
        have hsz := hB.out.size
        by_cases hlt : k < L.length
        · obtain ⟨b, off, cap', A5, c5, hv, hb, hS, hc⟩ := H6.out.at_ hlt
          obtain ⟨rfl, rfl⟩ : V = some ⟨b, off, none⟩ ∧ cap = cap' := by injection hv with e1 e2 e3; exact ⟨e1, e3⟩
          obtain ⟨bx, offx, capx', A7, c7, hvx, hbx, hSx, hcx⟩ := X6.out.at_ hlt
          obtain ⟨rfl, rfl⟩ : X = some ⟨bx, offx, none⟩ ∧ capx = capx' := by injection hvx with e1 e2 e3; exact ⟨e1, e3⟩
          have c0 := hc _ hB.out
          have cx0 := hcx _ hB.out
          have hbw : b < wr.heap.size := Nat.lt_of_lt_of_le hb hsz
          have hbxw : bx < wr.heap.size := Nat.lt_of_lt_of_le hbx hsz
          have S1 := Lib.hid (hS.ext hB.out)
          have Sx := Lib.hid (hSx.ext hB.out)
          clear hv hc hvx hcx hS hSx
          generalize L[k] = l at *
          have cS := fun x y w h k => same_any x y l l w h k
          rw [sameB_refl] at cS
          have CS := Lib.hid cS
          clear cS
          go_upto_region 18 with (fail)
          go_cut [85] (fun v85 wc => v85 = .bool false ∧ Hid (Below wr.heap.size wr wc))
          case first =>
            go_region_held3 (fun W => Hid (Below wr.heap.size wr W) ∧ W.cell? ⟨b, off + k, none⟩ = some (.slice A5 l.length c5) ∧ W.cell? ⟨bx, offx + k, none⟩ = some (.slice A7 l.length c7))
              (refine ⟨?_, ?_, ?_⟩ <;> first | assumption | exact And.left (by assumption) | exact Lib.hid (Below.refl _ _) | exact Lib.hid (Below.drew (Below.refl _ _)) | exact Lib.hid (Below.drew (Hid.out (by assumption))) | (simp [*]; done))
              (first | (go_at_call 29; refine (CS.out _ _ _ (Sx.out.ext (Hid.out (And.left (by assumption)))) (S1.out.ext (Hid.out (And.left (by assumption))))).mono ?_; rintro e w' ⟨rfl, hbq⟩
                        have hB' : Hid (Below wr.heap.size wr w') := Lib.hid (Below.trans (Hid.out (And.left (by assumption))) (hbq.mono (Below.size (w := wr) (B := wr.heap.size) (Hid.out (And.left (by assumption))))))
                        have k1 := (hB'.out.cell (p := ⟨b, off + k, none⟩) hbw).trans c0
                        have k2 := (hB'.out.cell (p := ⟨bx, offx + k, none⟩) hbxw).trans cx0))
            all_goals go_wp2_with fail
            all_goals go_meet
            all_goals exact ⟨rfl, hB'⟩
          case rest =>
            obtain ⟨rfl, hcut⟩ := hcut
            have BC := Lib.hid (hB.out.trans (hcut.out.mono hsz))
            clear hB hcut c0 cx0
            go_wp2_with fail
            go_roundw
            case rel => exact ⟨k + 1, by omega, by go_num, BC⟩
            case measure => simp [intOf]; omega
        · have B7 := Lib.hid (B6.out.trans (hB.out.mono B6.out.size))
          clear hB B6 X6 H6
          go_wp2_with fail
          refine (known7_any _).mono ?_
          rintro e w8 ⟨rfl, hb⟩
          have B8 := Lib.hid (B7.out.trans (hb.mono B7.out.size))
          clear hb B7
          go_wp2
          go_ret
          exact ⟨rfl, B8.out⟩

end Go.Proofs.Ytdlbjfgpfjcpaaa
